/- Several of my texts in one: Arr. -/
import Derived.Test.YtjplnkkcmkpkbaaMA27
set_option linter.unusedSimpArgs false
set_option linter.unusedVariables false
/- Slices: those that are only read (Sa), and a call's own ones, apart from each other (Fr). -/
namespace Go.Proofs.Ytjplnkkcmkpkbaa
open Go.RowKit

def nth (l : List Int) (i : Nat) : Int := l.getD i 0
def ints (l : List Int) : List Value := l.map (Value.int .i64)
theorem ints_len (l : List Int) : (ints l).length = l.length := by simp [ints]
theorem ints_get (l : List Int) (i : Nat) (h : i < l.length) : (ints l)[i]? = some (.int .i64 (nth l i)) := by simp [ints, nth, h]
theorem ints_set (l : List Int) (i : Nat) (x : Int) : (ints l).set i (.int .i64 x) = ints (l.set i x) := by simp [ints, List.map_set]
theorem ints_snoc (l : List Int) (x : Int) : ints l ++ [.int .i64 x] = ints (l ++ [x]) := by simp [ints]
theorem ints_take (l : List Int) (k : Nat) : (ints l).take k = ints (l.take k) := by simp [ints, List.map_take]
theorem ints_drop (l : List Int) (k : Nat) : (ints l).drop k = ints (l.drop k) := by simp [ints, List.map_drop]
theorem ints_rep (n : Nat) (x : Int) : List.replicate n (Value.int .i64 x) = ints (List.replicate n x) := by simp [ints]
theorem nth_take (l : List Int) (k i : Nat) (h : i < k) : nth (l.take k) i = nth l i := by
  unfold nth; rw [List.getD_eq_getElem?_getD, List.getD_eq_getElem?_getD, List.getElem?_take_of_lt h]
theorem nth_set (l : List Int) (i j : Nat) (x : Int) (h : i < l.length) : nth (l.set i x) j = if j = i then x else nth l j := by
  unfold nth
  rw [List.getD_eq_getElem?_getD, List.getD_eq_getElem?_getD, List.getElem?_set]
  by_cases e : i = j
  · subst e; simp [h]
  · rw [if_neg e, if_neg (fun x => e x.symm)]
theorem nth_snoc (l : List Int) (x : Int) (j : Nat) : nth (l ++ [x]) j = if j = l.length then x else nth l j := by
  unfold nth
  rw [List.getD_eq_getElem?_getD, List.getD_eq_getElem?_getD, List.getElem?_append]
  by_cases h : j < l.length
  · rw [if_pos h, if_neg (by omega)]
  · rw [if_neg h]
    by_cases e : j = l.length
    · subst e; simp
    · rw [if_neg e, List.getElem?_eq_none (by simp; omega), List.getElem?_eq_none (by omega)]
theorem nth_drop (l : List Int) (k i : Nat) : nth (l.drop k) i = nth l (k + i) := by
  unfold nth; rw [List.getD_eq_getElem?_getD, List.getD_eq_getElem?_getD, List.getElem?_drop]
theorem take_nth (l : List Int) (k : Nat) (h : k < l.length) : l.take (k + 1) = l.take k ++ [nth l k] := by
  rw [List.take_succ_eq_append_getElem h]; simp [nth, h]
theorem nth_mem (l : List Int) (k : Nat) (h : k < l.length) : nth l k ∈ l := by simp [nth, h]
theorem nth_rep (n i : Nat) (x : Int) (h : i < n) : nth (List.replicate n x) i = x := by simp [nth, h]
theorem nth_map (f : Int → Int) (l : List Int) (k : Nat) (h : k < l.length) : nth (l.map f) k = f (nth l k) := by simp [nth, h]
theorem ext_nth {l m : List Int} (h : l.length = m.length) (e : ∀ i, i < l.length → nth l i = nth m i) : l = m := by
  apply List.ext_getElem h
  intro i h1 h2
  have := e i h1
  simpa [nth, h1, h2] using this

/-! read-only -/
/-- the slice at a reads as the cells xs -/
def Sa (w : World) (a : Option Addr) (xs : List Value) : Prop := 0 < xs.length → ∃ b off, a = some ⟨b, off, none⟩ ∧ b < w.heap.size ∧ ∀ i, i < xs.length → w.cell? ⟨b, off + i, none⟩ = xs[i]?
theorem Sa.keep {w w' : World} {a : Option Addr} {xs : List Value} (h : Sa w a xs) (k : Below w.heap.size w w') : Sa w' a xs := by
  intro h0
  obtain ⟨b, off, e, hb, hc⟩ := h h0
  exact ⟨b, off, e, Nat.lt_of_lt_of_le hb k.size, fun i hi => by rw [← hc i hi]; exact k.cell (p := ⟨b, off + i, none⟩) hb⟩
theorem Sa.alloc {w : World} {a : Option Addr} {xs : List Value} (h : Sa w a xs) (o : Obj) : Sa (w.alloc o) a xs := h.keep (kin_alloc (Below.refl _ _) o)
theorem Sa.nil (w : World) (a : Option Addr) : Sa w a [] := fun h => absurd h (Nat.lt_irrefl 0)
theorem Sa.at {w : World} {a : Option Addr} {xs : List Value} (h : Sa w a xs) (i : Nat) (hi : i < xs.length) : ∃ b off, a = some ⟨b, off, none⟩ ∧ b < w.heap.size ∧ w.cell? ⟨b, off + i, none⟩ = xs[i]? := by
  obtain ⟨b, off, e, hb, hc⟩ := h (by omega)
  exact ⟨b, off, e, hb, hc i hi⟩
theorem Sa.int {w : World} {a : Option Addr} {l : List Int} (h : Sa w a (ints l)) (i : Nat) (hi : i < l.length) : ∃ b off, a = some ⟨b, off, none⟩ ∧ b < w.heap.size ∧ w.cell? ⟨b, off + i, none⟩ = some (.int .i64 (nth l i)) := by
  obtain ⟨b, off, e, hb, hc⟩ := h.at i (by rw [ints_len]; exact hi)
  exact ⟨b, off, e, hb, by rw [hc, ints_get l i hi]⟩
theorem Sa.take {w : World} {a : Option Addr} {xs : List Value} (h : Sa w a xs) (k : Nat) : Sa w a (xs.take k) := by
  intro h0
  rw [List.length_take] at h0
  obtain ⟨b, off, e, hb, hc⟩ := h (by omega)
  refine ⟨b, off, e, hb, fun i hi => ?_⟩
  rw [List.length_take] at hi
  rw [hc i (by omega), List.getElem?_take_of_lt (by omega)]
theorem Sa.drop {w : World} {b off : Nat} {xs : List Value} (h : Sa w (some ⟨b, off, none⟩) xs) (k : Nat) : Sa w (some ⟨b, off + k, none⟩) (xs.drop k) := by
  intro h0
  rw [List.length_drop] at h0
  obtain ⟨b', off', e, hb, hc⟩ := h (by omega)
  cases e
  refine ⟨b, off + k, rfl, hb, fun i hi => ?_⟩
  rw [List.length_drop] at hi
  rw [Nat.add_assoc, hc (k + i) (by omega), List.getElem?_drop]
theorem Sl.sa {w : World} {v : Value} {l : List Int} (h : Sl w v l) : ∃ a cap, v = .slice a l.length cap ∧ Sa w a (ints l) := by
  rcases h with ⟨rfl, a, cap, rfl⟩ | ⟨h0, b, off, cap, rfl, hb, hc⟩
  · exact ⟨a, cap, rfl, Sa.nil _ _⟩
  · exact ⟨_, cap, rfl, fun _ => ⟨b, off, rfl, hb, fun i hi => by rw [ints_len] at hi; rw [hc i hi, ints_get l i hi]; rfl⟩⟩
theorem Sa.sl {w : World} {a : Option Addr} {cap : Nat} {l : List Int} (h : Sa w a (ints l)) : Sl w (.slice a l.length cap) l := by
  by_cases h0 : 0 < l.length
  · obtain ⟨b, off, rfl, hb, hc⟩ := h (by rw [ints_len]; exact h0)
    exact .inr ⟨h0, b, off, cap, rfl, hb, fun i hi => by rw [hc i (by rw [ints_len]; exact hi), ints_get l i hi]; rfl⟩
  · have : l = [] := List.eq_nil_of_length_eq_zero (by omega)
    subst this
    exact .inl ⟨rfl, a, cap, rfl⟩
theorem IsRow.sa {w : World} {a : Option Addr} {len cap : Nat} {zs : List Int} (h : IsRow .i64 w a len cap zs) :
    Sa w a (ints (zs.take len)) ∧ (zs.take len).length = len ∧ len ≤ maxLen ∧ ∀ x ∈ zs.take len, -9223372036854775808 ≤ x ∧ x ≤ 9223372036854775807 := by
  obtain ⟨h1, h2, h3⟩ := h.sl
  refine ⟨?_, h2, h3, fun x hx => ?_⟩
  · obtain ⟨a', cap', e, hs⟩ := h1.sa
    simp only [Value.slice.injEq] at e
    obtain ⟨rfl, -, -⟩ := e
    exact hs
  · rcases h with ⟨_, _, _, rfl⟩ | ⟨_, _, _, _, _, _, hw⟩
    · simp at hx
    · have := hw x (List.mem_of_mem_take hx)
      simp [Lit.wf, go_sem] at this
      have e1 : IntKind.i64.min = -9223372036854775808 := by decide
      omega

theorem IsRow.cap {w : World} {a : Option Addr} {len cap : Nat} {zs : List Int} (h : IsRow .i64 w a len cap zs) : len ≤ cap := by
  rcases h with ⟨_, rfl, rfl, _⟩ | ⟨_, _, h, _⟩
  · exact Nat.le_refl _
  · exact h
/-! a call's own slices -/
/-- a slice of the call's own: its elements' type, its value, its cells -/
structure Ent where
  T : TypeId
  v : Value
  xs : List Value
def Ent.own (w : World) (base : Nat) (e : Ent) : Prop := w.ownsRow base e.T 1 e.v e.xs.length e.xs
def Far (a b : Ent) : Prop := a.v.ownBlock = none ∨ a.v.ownBlock ≠ b.v.ownBlock
theorem Far.symm {a b : Ent} (h : Far a b) : Far b a := by
  rcases h with h | h
  · by_cases hb : b.v.ownBlock = none
    · exact .inl hb
    · exact .inr (by rw [h]; exact hb)
  · exact .inr (Ne.symm h)
structure Oss (w : World) (base : Nat) (L : List Ent) : Prop where
  own : ∀ e ∈ L, e.own w base
  far : L.Pairwise Far
theorem Ent.own.elim {w : World} {base : Nat} {T : TypeId} {ad : Option Addr} {n cap : Nat} {xs : List Value} (h : Ent.own w base ⟨T, .slice ad n cap, xs⟩) :
    n = xs.length ∧ ((ad = none ∧ cap = 0 ∧ xs = []) ∨ ∃ g cur, ad = some ⟨g, 0, none⟩ ∧ base ≤ g ∧ w.heap[g]? = some (.cells cur T (0, 0)) ∧ n ≤ cap ∧ cap ≤ maxLen ∧ cur.size = cap ∧ cur.toList.take n = xs) := by
  obtain ⟨h1, h2⟩ := h
  rcases h2 with ⟨e, h2⟩ | ⟨g, cap', cur, e, h3, h4, h5, h6, h7, h8⟩
  · simp only [Value.slice.injEq] at e
    simp only at h2
    exact ⟨by rw [e.2.1, h2], .inl ⟨e.1, e.2.2, List.eq_nil_of_length_eq_zero h2⟩⟩
  · simp only [Value.slice.injEq] at e
    simp only [Nat.mul_one] at h4 h5 h7 h8
    obtain ⟨rfl, e2, rfl⟩ := e
    refine ⟨e2, .inr ⟨g, cur, rfl, h3, h4, by omega, h6, h7, by rw [e2]; exact h8⟩⟩
theorem Oss.nil (w : World) (base : Nat) : Oss w base [] := ⟨by simp, .nil⟩
theorem Oss.perm {w : World} {base : Nat} {L M : List Ent} (h : Oss w base L) (p : L.Perm M) : Oss w base M :=
  ⟨fun e he => h.own e (p.mem_iff.2 he), (p.pairwise_iff (fun h => h.symm)).1 h.far⟩
theorem Oss.sub {w : World} {base : Nat} {L M : List Ent} (h : Oss w base L) (p : M.Sublist L) : Oss w base M :=
  ⟨fun e he => h.own e (p.subset he), h.far.sublist p⟩
theorem Ent.own.lt {w : World} {base : Nat} {e : Ent} (h : e.own w base) : ∀ k, e.v.ownBlock = some k → base ≤ k ∧ k < w.heap.size := World.ownsRow.lt h
theorem Oss.kept {w w' : World} {base : Nat} {L : List Ent} {row : Option Nat} (h : Oss w base L) (hg : w.grownBy w' row) (hne : ∀ e ∈ L, e.v.ownBlock = none ∨ e.v.ownBlock ≠ row) : Oss w' base L :=
  ⟨fun e he => World.ownsRow.kept (h.own e he) hg (hne e he), h.far⟩
theorem Oss.keptAll {w w' : World} {base : Nat} {L : List Ent} (h : Oss w base L) (hg : w.grownBy w' none) : Oss w' base L :=
  h.kept hg fun e _ => by cases hv : e.v.ownBlock <;> simp
theorem grown0 {w w' : World} (b : Below w.heap.size w w') : w.grownBy w' none := ⟨b.os, b.tape, b.output, b.size, fun k hk _ => b.block k hk⟩
theorem Oss.mono {w : World} {base base' : Nat} {L : List Ent} (h : Oss w base L) (hb : base' ≤ base) : Oss w base' L := by
  refine ⟨fun e he => ?_, h.far⟩
  obtain ⟨h1, h2⟩ := h.own e he
  refine ⟨h1, ?_⟩
  rcases h2 with h2 | ⟨g, cap, cur, e1, e2, e3⟩
  · exact .inl h2
  · exact .inr ⟨g, cap, cur, e1, Nat.le_trans hb e2, e3⟩
theorem Oss.append {w : World} {base base' : Nat} {L M : List Ent} (h : Oss w base L) (k : Oss w base' M) (hb : base ≤ base') (hlt : ∀ e ∈ L, ∀ k, e.v.ownBlock = some k → k < base') : Oss w base (M ++ L) := by
  have k' := k.mono hb
  refine ⟨fun e he => ?_, List.pairwise_append.2 ⟨k.far, h.far, fun a ha b hb' => ?_⟩⟩
  · rcases List.mem_append.1 he with he | he
    · exact k'.own e he
    · exact h.own e he
  · by_cases hv : a.v.ownBlock = none
    · exact .inl hv
    · refine .inr fun e => ?_
      cases hk : a.v.ownBlock with
      | none => exact hv hk
      | some n =>
        have h1 := (Ent.own.lt (k.own a ha) n hk).1
        have h2 := hlt b hb' n (by rw [← e]; exact hk)
        omega

/-- since the call began (at w0) nothing old has turned, and these are slices of its own, apart from each other -/
structure Fr (w0 w : World) (L : List Ent) : Prop where
  bel : Below w0.heap.size w0 w
  os : Oss w w0.heap.size L
theorem Fr.start (w : World) : Fr w w [] := ⟨Below.refl _ _, Oss.nil _ _⟩
theorem Fr.perm {w0 w : World} {L M : List Ent} (h : Fr w0 w L) (p : L.Perm M) : Fr w0 w M := ⟨h.bel, h.os.perm p⟩
theorem Fr.swap {w0 w : World} {a b : Ent} {L : List Ent} (h : Fr w0 w (a :: b :: L)) : Fr w0 w (b :: a :: L) := h.perm (.swap _ _ _)
theorem Fr.rot {w0 w : World} {a b c : Ent} {L : List Ent} (h : Fr w0 w (a :: b :: c :: L)) : Fr w0 w (c :: a :: b :: L) :=
  h.perm (List.Perm.trans (.cons _ (.swap _ _ _)) (.swap _ _ _))
theorem Fr.sub {w0 w : World} {L M : List Ent} (h : Fr w0 w L) (p : M.Sublist L) : Fr w0 w M := ⟨h.bel, h.os.sub p⟩
theorem Fr.tail {w0 w : World} {e : Ent} {L : List Ent} (h : Fr w0 w (e :: L)) : Fr w0 w L := h.sub (List.sublist_cons_self _ _)
theorem Fr.below {w0 w : World} {L : List Ent} (h : Fr w0 w L) : Fr w0 w [] := ⟨h.bel, Oss.nil _ _⟩
/-- a callee that leaves what was there as it was -/
theorem Fr.keep {w0 w w' : World} {L : List Ent} (h : Fr w0 w L) (b : Below w.heap.size w w') : Fr w0 w' L := ⟨kin_trans h.bel b, h.os.keptAll (grown0 b)⟩
theorem Fr.alloc {w0 w : World} {L : List Ent} (h : Fr w0 w L) (o : Obj) : Fr w0 (w.alloc o) L := h.keep (kin_alloc (Below.refl _ _) o)
theorem Fr.drew {w0 w : World} {L : List Ent} (h : Fr w0 w L) : Fr w0 w.drew L := h.keep (Below.refl _ _).drew
theorem Fr.drewN {w0 w : World} {L : List Ent} (h : Fr w0 w L) (n : Nat) : Fr w0 (w.drewN n) L := h.keep ⟨rfl, rfl, rfl, Nat.le_refl _, fun _ _ => rfl⟩
/-- a callee that hands back slices of its own -/
theorem Fr.call {w0 w w' : World} {L M : List Ent} (h : Fr w0 w L) (b : Fr w w' M) : Fr w0 w' (M ++ L) := by
  refine ⟨kin_trans h.bel b.bel, (h.keep b.bel).os.append b.os h.bel.size fun e he k hk => ?_⟩
  exact (Ent.own.lt (h.os.own e he) k hk).2
theorem Fr.nilSlice {w0 w : World} {L : List Ent} (h : Fr w0 w L) (T : TypeId) : Fr w0 w (⟨T, .slice none 0 0, []⟩ :: L) :=
  ⟨h.bel, ⟨fun e he => by
    rcases List.mem_cons.1 he with rfl | he
    · exact ⟨rfl, .inl ⟨rfl, rfl⟩⟩
    · exact h.os.own e he, List.pairwise_cons.2 ⟨fun b _ => .inl rfl, h.os.far⟩⟩⟩
/-- a new block whose cells are known -/
theorem Fr.new {w0 w : World} {L : List Ent} (h : Fr w0 w L) (T : TypeId) (cs : Array Value) (xs : List Value) (e : cs.toList = xs) (n : Nat) (hn : n = xs.length) (hl : n ≤ 1000000) :
    Fr w0 (w.alloc (.cells cs T)) (⟨T, .slice (some ⟨w.heap.size, 0, none⟩) n n, xs⟩ :: L) := by
  subst e hn
  have ha := h.alloc (.cells cs T)
  refine ⟨ha.bel, ⟨fun e he => ?_, List.pairwise_cons.2 ⟨fun b hb => .inr ?_, h.os.far⟩⟩⟩
  · rcases List.mem_cons.1 he with rfl | he
    · have := World.ownsRow_lit (size := 1) (e := T) w cs cs.toList.length h.bel.size (by unfold maxLen; omega) (by simp)
      exact this
    · exact ha.os.own e he
  · intro e
    have := (Ent.own.lt (h.os.own b hb) _ e.symm).2
    simp only at this
    omega
/-- a store into the first of them -/
theorem Fr.set {w0 w : World} {L : List Ent} {T : TypeId} {g n cap : Nat} {xs : List Value} (h : Fr w0 w (⟨T, .slice (some ⟨g, 0, none⟩) n cap, xs⟩ :: L)) (i : Nat) (y : Value) :
    Fr w0 (w.setCell ⟨g, i, none⟩ y) (⟨T, .slice (some ⟨g, 0, none⟩) n cap, xs.set i y⟩ :: L) := by
  have hO := h.os.own _ List.mem_cons_self
  have hg := (Ent.own.lt hO g rfl).1
  have hlen : n = xs.length := hO.elim.1
  subst hlen
  have hs := World.ownsRow.stored hO i y
  refine ⟨h.bel.setCell hg y, ⟨fun e he => ?_, ?_⟩⟩
  · rcases List.mem_cons.1 he with rfl | he
    · have := hs.1
      unfold Ent.own
      simpa using this
    · refine World.ownsRow.kept (h.os.own e (List.mem_cons_of_mem _ he)) hs.2 ?_
      have := (List.pairwise_cons.1 h.os.far).1 e he
      exact this.symm
  · have := List.pairwise_cons.1 h.os.far
    exact List.pairwise_cons.2 ⟨fun b hb => this.1 b hb, this.2⟩
theorem Fr.setInt {w0 w : World} {L : List Ent} {T : TypeId} {g n cap : Nat} {l : List Int} (h : Fr w0 w (⟨T, .slice (some ⟨g, 0, none⟩) n cap, ints l⟩ :: L)) (i : Nat) (y : Int) :
    Fr w0 (w.setCell ⟨g, i, none⟩ (.int .i64 y)) (⟨T, .slice (some ⟨g, 0, none⟩) n cap, ints (l.set i y)⟩ :: L) := by
  rw [← ints_set]; exact h.set i _
/-- what the first of them holds -/
theorem Fr.open {w0 w : World} {L : List Ent} {T : TypeId} {ad : Option Addr} {n cap : Nat} {xs : List Value} (h : Fr w0 w (⟨T, .slice ad n cap, xs⟩ :: L)) (h0 : 0 < xs.length) :
    ∃ g, ad = some ⟨g, 0, none⟩ ∧ w0.heap.size ≤ g ∧ g < w.heap.size ∧ (∀ i, i < xs.length → w.cell? ⟨g, i, none⟩ = xs[i]?) ∧ ∀ i, w.frozen? ⟨g, i, none⟩ = false := by
  have hO := h.os.own _ List.mem_cons_self
  rcases hO.elim with ⟨rfl, ⟨h1, h2, h3⟩ | ⟨g, cur, rfl, h2, h3, h4⟩⟩
  · rw [h3] at h0; simp at h0
  · exact ⟨g, rfl, h2, (Array.getElem?_eq_some_iff.1 h3).1, fun i hi => World.ownsRow.cellAt hO i (by simpa using hi), fun i => World.ownsRow.frozenAt hO i⟩
theorem Fr.len {w0 w : World} {L : List Ent} {T : TypeId} {ad : Option Addr} {n cap : Nat} {xs : List Value} (h : Fr w0 w (⟨T, .slice ad n cap, xs⟩ :: L)) : n = xs.length :=
  (h.os.own _ List.mem_cons_self).elim.1
theorem Fr.isSlice {w0 w : World} {L : List Ent} {T : TypeId} {v : Value} {xs : List Value} (h : Fr w0 w (⟨T, v, xs⟩ :: L)) : ∃ ad cap, v = .slice ad xs.length cap := by
  rcases (h.os.own _ List.mem_cons_self).2 with ⟨h1, h2⟩ | ⟨g, cap', cur, h1, h2, h3, h4⟩
  · exact ⟨none, 0, by rw [show v = .slice none 0 0 from h1, show xs.length = 0 from h2]⟩
  · exact ⟨_, _, h1⟩
/-- one of them is read -/
theorem Fr.get {w0 w : World} {L : List Ent} (h : Fr w0 w L) (i : Nat) {T : TypeId} {ad : Option Addr} {n cap : Nat} {xs : List Value} (he : L[i]? = some ⟨T, .slice ad n cap, xs⟩) : Sa w ad xs := by
  have hO := h.os.own _ (List.mem_of_getElem? he)
  intro h0
  rcases hO.elim with ⟨rfl, ⟨h1, h2, h3⟩ | ⟨g, cur, rfl, h2, h3, h4⟩⟩
  · rw [h3] at h0; simp at h0
  · exact ⟨g, 0, rfl, (Array.getElem?_eq_some_iff.1 h3).1, fun i hi => by rw [Nat.zero_add]; exact World.ownsRow.cellAt hO i (by simpa using hi)⟩
theorem Fr.old {w0 w : World} {L : List Ent} {a : Option Addr} {xs : List Value} (h : Fr w0 w L) (hs : Sa w0 a xs) : Sa w a xs := hs.keep h.bel
/-- the first m of the first one -/
theorem Fr.cut {w0 w : World} {L : List Ent} {T : TypeId} {ad : Option Addr} {n cap : Nat} {xs : List Value} (h : Fr w0 w (⟨T, .slice ad n cap, xs⟩ :: L)) (m : Nat) (hm : m ≤ xs.length) :
    Fr w0 w (⟨T, .slice ad m cap, xs.take m⟩ :: L) := by
  refine ⟨h.bel, ⟨fun e he => ?_, ?_⟩⟩
  · rcases List.mem_cons.1 he with rfl | he
    · have hl : (xs.take m).length = m := by rw [List.length_take]; omega
      rcases (h.os.own _ List.mem_cons_self).elim with ⟨rfl, ⟨rfl, rfl, rfl⟩ | ⟨g, cur, rfl, h2, h3, h4, h5, h6, h7⟩⟩
      · have hm0 : m = 0 := by simpa using hm
        subst hm0
        exact ⟨rfl, .inl ⟨rfl, rfl⟩⟩
      · refine ⟨by simp, .inr ⟨g, cap, cur, ?_, h2, h3, ?_, h5, by omega, ?_⟩⟩
        · show Value.slice _ m cap = _; rw [hl]
        · rw [hl]; omega
        · rw [hl]
          show cur.toList.take (m * 1) = xs.take m
          conv => rhs; rw [← h7]
          rw [List.take_take]; congr 1; omega
    · exact h.os.own e (List.mem_cons_of_mem _ he)
  · have := List.pairwise_cons.1 h.os.far
    refine List.pairwise_cons.2 ⟨fun b hb => ?_, this.2⟩
    have hf := this.1 b hb
    cases ad <;> exact hf

/-- append of one cell to the first of them -/
theorem wpList_push {ops : Array Oper} {rest : List Oper} {o : Oper} {a : Act} {Q : Exit → Act → World → Prop} {w0 w : World} (hgd : o.guard = none) (s x : Operand) (S T : TypeId) (z : Value) (bytes : Nat)
    (hS : Try.prog.underlying S = some (.slice T)) (hT : (Try.prog.info? T).map (fun i => (i.zero, i.size, i.bytes)) = some (some z, 1, bytes)) (hz : z.cells.size = 1) (hby : bytes ≤ 1000)
    (ho : o.op = .call { callee := .builtin .append, args := #[s, x], argTypes := #[S, S] })
    (ad : Option Addr) (n cap : Nat) (xs : List Value) (y : Value) (L : List Ent) (hs : a.eval s = .slice ad n cap) (hF : Fr w0 w (⟨T, .slice ad n cap, xs⟩ :: L))
    (hx : a.eval x = .slice (some ⟨w.heap.size, 0, none⟩) 1 1) (hy : y.oneCell' = true) (hlen : n ≤ 1000000)
    (h : ∀ ad' cap' w', Fr w0 w' (⟨T, .slice ad' (n + 1) cap', xs ++ [y]⟩ :: L) → w.heap.size < w'.heap.size → wpList Try.prog ops Q rest (a.put o.dst (.slice ad' (n + 1) cap')) w') :
    wpList Try.prog ops Q (o :: rest) a (w.alloc (.cells #[y] T)) := by
  obtain ⟨i0, hi, hz0, hz1, hz2⟩ := info_parts hT
  have hn := hF.len
  subst hn
  have hO := hF.os.own _ List.mem_cons_self
  refine wpList_append_own_at _ hgd s x S ho w0.heap.size T i0 z 1 bytes hS hi hz0 hz1 hz2 hz (by decide) (.slice ad xs.length cap) xs.length xs hs (World.ownsRow.alloc hO _)
    ⟨w.heap.size, 0, none⟩ 1 1 [y] hx rfl (cell_one_new _ _ _) ?_ ?_ ?_ ?_ ?_
  · intro u hu; simp at hu; subst hu; exact hy
  · unfold maxLen; omega
  · calc (xs.length + 1) * bytes ≤ 1000001 * 1000 := Nat.mul_le_mul (by omega) hby
      _ ≤ _ := by omega
  · have := hF.bel.size; simp; omega
  · intro v' w' h1 h2 hnil hat
    have hsz := h2.size
    have hsz0 : (w.alloc (.cells #[y] T)).heap.size = w.heap.size + 1 := by simp
    have hb0 := hF.bel.size
    obtain ⟨ad', cap', rfl⟩ : ∃ ad' cap', v' = .slice ad' (xs.length + 1) cap' := by
      rcases h1.2 with ⟨e1, e2⟩ | ⟨g, cap', cur, e1, _⟩
      · omega
      · exact ⟨_, _, e1⟩
    refine h ad' cap' w' ⟨?_, ⟨fun e he => ?_, ?_⟩⟩ (by omega)
    · refine Below.grown (row := (Value.slice ad xs.length cap).ownBlock) (hF.alloc _).bel h2 (by omega) ?_
      intro k hk
      exact (Ent.own.lt hO k hk).1
    · rcases List.mem_cons.1 he with rfl | he
      · unfold Ent.own; simpa using h1
      · refine World.ownsRow.kept ((hF.alloc _).os.own e (List.mem_cons_of_mem _ he)) h2 ?_
        exact ((List.pairwise_cons.1 hF.os.far).1 e he).symm
    · have hf := List.pairwise_cons.1 hF.os.far
      refine List.pairwise_cons.2 ⟨fun b hb => ?_, hf.2⟩
      have hbf := hf.1 b hb
      have hlt := Ent.own.lt (hF.os.own b (List.mem_cons_of_mem _ hb))
      rcases hat with hat | hat
      · rcases hbf with hbf | hbf
        · exact .inl (show (Value.slice ad' (xs.length + 1) cap').ownBlock = none by rw [hat]; exact hbf)
        · exact .inr (show (Value.slice ad' (xs.length + 1) cap').ownBlock ≠ _ by rw [hat]; exact hbf)
      · refine .inr (show (Value.slice ad' (xs.length + 1) cap').ownBlock ≠ _ from ?_)
        rw [hat]
        intro e
        have := (hlt _ e.symm).2
        omega

/-- append of one int to the first of them -/
theorem wpList_pushInt {ops : Array Oper} {rest : List Oper} {o : Oper} {a : Act} {Q : Exit → Act → World → Prop} {w0 w : World} (hgd : o.guard = none) (s x : Operand)
    (ho : o.op = .call { callee := .builtin .append, args := #[s, x], argTypes := #[87, 87] })
    (ad : Option Addr) (n cap : Nat) (l : List Int) (y : Int) (L : List Ent) (hs : a.eval s = .slice ad n cap) (hF : Fr w0 w (⟨3, .slice ad n cap, ints l⟩ :: L))
    (hx : a.eval x = .slice (some ⟨w.heap.size, 0, none⟩) 1 1) (hlen : n ≤ 1000000)
    (h : ∀ ad' cap' w', Fr w0 w' (⟨3, .slice ad' (n + 1) cap', ints (l ++ [y])⟩ :: L) → w.heap.size < w'.heap.size → wpList Try.prog ops Q rest (a.put o.dst (.slice ad' (n + 1) cap')) w') :
    wpList Try.prog ops Q (o :: rest) a (w.alloc (.cells #[.int .i64 y] 3)) :=
  wpList_push hgd s x 87 3 (.int .i64 0) 8 Try.underlying87 intInfo rfl (by omega) ho ad n cap (ints l) (.int .i64 y) L hs hF hx rfl hlen
    (fun ad' cap' w' hF' hlt => h ad' cap' w' (by rw [← ints_snoc]; exact hF') hlt)

/-- make([]int, n) -/
theorem Fr.makeInts {w0 w : World} {L : List Ent} (h : Fr w0 w L) (n : Nat) (hl : n ≤ 1000000) :
    Fr w0 (w.alloc (.cells (rowCells n (fun _ => 0)) 3)) (⟨3, .slice (some ⟨w.heap.size, 0, none⟩) n n, ints (List.replicate n 0)⟩ :: L) := by
  refine h.new 3 _ _ ?_ n (by rw [ints_len]; simp) hl
  rw [← ints_rep]
  simp [rowCells, List.map_const']
/-- the contract's end of a call that hands back one slice of ints of its own -/
def Made (l : List Int) (w w' : World) (ad : Option Addr) (cap : Nat) : Prop := Fr w w' [⟨3, .slice ad l.length cap, ints l⟩]
end Go.Proofs.Ytjplnkkcmkpkbaa
