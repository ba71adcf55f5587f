/- Several of my texts in one: Own2, Arr, Arr2, Arr3, Arr4. -/
import Derived.Test.YtooghdnlaonkaaaPw01
import Derived.Maps.AppendAt
import Derived.Laws.CopyOwn
import Derived.Laws.AppendOwnNone
/- The append law that says what is kept of another own slice. -/
namespace Go.Proofs.Ytooghdnlaonkaaa
open Go.RowKit

/-- two own slices that do not share a block -/
def Apart (v u : Value) : Prop := v.ownBlock = none ∨ v.ownBlock ≠ u.ownBlock
theorem Own.kept {w w' : World} {base : Nat} {v : Value} {l : List Int} {row : Option Nat} (h : Own w base v l) (hg : w.grownBy w' row) (hne : v.ownBlock = none ∨ v.ownBlock ≠ row) : Own w' base v l := World.ownsRow.kept h hg hne
theorem Own.blockLt {w : World} {base : Nat} {v : Value} {l : List Int} (h : Own w base v l) : ∀ k, v.ownBlock = some k → k < w.heap.size := by
  intro k hk
  obtain ⟨_, h2⟩ := h
  rcases h2 with ⟨rfl, _⟩ | ⟨g, cap, cur, rfl, _, e3, _⟩
  · cases hk
  · simp [Value.ownBlock] at hk; subst hk
    exact (Array.getElem?_eq_some_iff.1 e3).1

/-- append one number; what else is kept: every other own slice that is apart from it, and it stays apart -/
theorem wpList_append1_at {ops : Array Oper} {rest : List Oper} {o : Oper} {a : Act} {Q : Exit → Act → World → Prop} {w0 : World} (hgd : o.guard = none) (s x : Operand)
    (ho : o.op = .call { callee := .builtin .append, args := #[s, x], argTypes := #[32, 32] })
    (base : Nat) (v : Value) (l : List Int) (y : Int) (hs : a.eval s = v) (hown : Own w0 base v l)
    (hx : a.eval x = .slice (some ⟨w0.heap.size, 0, none⟩) 1 1) (hlen : l.length ≤ 1000000) (hbase : base ≤ w0.heap.size)
    (h : ∀ v' w', Own w' base v' (l ++ [y]) → Below base w0 w' → w0.heap.size < w'.heap.size →
      (∀ base1 u m, Own w0 base1 u m → Apart u v → Own w' base1 u m ∧ Apart u v' ∧ Apart v' u) → wpList Try.prog ops Q rest (a.put o.dst v') w') :
    wpList Try.prog ops Q (o :: rest) a (w0.alloc (.cells #[.int .i64 y] 3)) := by
  obtain ⟨i0, hi, hz0, hz1, hz2⟩ := info_parts intInfo
  refine wpList_append_own_at _ hgd s x 32 ho base 3 i0 (.int .i64 0) 1 8 Try.underlying32 hi hz0 hz1 hz2 rfl (by decide) v l.length (l.map (Value.int .i64)) hs (World.ownsRow.alloc hown _)
    ⟨w0.heap.size, 0, none⟩ 1 1 [.int .i64 y] hx rfl (cell_one_new _ _ _) ?_ ?_ ?_ ?_ ?_
  · intro u hu; simp at hu; subst hu; rfl
  · unfold maxLen; omega
  · omega
  · simp; omega
  · intro v' w' h1 h2 _ hat
    have hsz := h2.size
    have hsz0 : (w0.alloc (.cells #[.int .i64 y] 3)).heap.size = w0.heap.size + 1 := by simp
    refine h v' w' ?_ ?_ ?_ ?_
    · unfold Own
      rw [List.length_append, List.map_append]; exact h1
    · refine Below.grown (row := v.ownBlock) ((Below.refl base w0).alloc hbase _) h2 (by simp; omega) ?_
      intro k hk
      exact (World.ownsRow.lt hown k hk).1
    · omega
    · intro base1 u m hu hap
      refine ⟨(hu.alloc _).kept h2 hap, ?_, ?_⟩
      · rcases hap with hap | hap
        · exact .inl hap
        · rcases hat with hat | hat
          · exact .inr (by rw [hat]; exact hap)
          · refine .inr fun he => ?_
            have := hu.blockLt _ (he.trans hat)
            omega
      · by_cases hv : v'.ownBlock = none
        · exact .inl hv
        · refine .inr fun he => ?_
          rcases hat with hat | hat
          · rcases hap with hap | hap
            · exact hv (by rw [he, hap])
            · exact hap (by rw [← he, hat])
          · have := hu.blockLt _ (he.symm.trans hat)
            omega
end Go.Proofs.Ytooghdnlaonkaaa
/- Slices: those that are only read (Sa), and a call's own ones, apart from each other (Fr). -/
namespace Go.Proofs.Ytooghdnlaonkaaa
open Go.RowKit

def nth (l : List Int) (i : Nat) : Int := l.getD i 0
def ints (l : List Int) : List Value := l.map (Value.int .i64)
theorem ints_len (l : List Int) : (ints l).length = l.length := by simp [ints]
theorem ints_get (l : List Int) (i : Nat) (h : i < l.length) : (ints l)[i]? = some (.int .i64 (nth l i)) := by simp [ints, nth, h]
theorem ints_set (l : List Int) (i : Nat) (x : Int) : (ints l).set i (.int .i64 x) = ints (l.set i x) := by simp [ints, List.map_set]
theorem ints_snoc (l : List Int) (x : Int) : ints l ++ [.int .i64 x] = ints (l ++ [x]) := by simp [ints]
theorem ints_take (l : List Int) (k : Nat) : (ints l).take k = ints (l.take k) := by simp [ints, List.map_take]
theorem ints_drop (l : List Int) (k : Nat) : (ints l).drop k = ints (l.drop k) := by simp [ints, List.map_drop]
theorem ints_rep (n : Nat) (x : Int) : List.replicate n (Value.int .i64 x) = ints (List.replicate n x) := by simp [ints]
theorem nth_take (l : List Int) (k i : Nat) (h : i < k) : nth (l.take k) i = nth l i := by
  unfold nth; rw [List.getD_eq_getElem?_getD, List.getD_eq_getElem?_getD, List.getElem?_take_of_lt h]
theorem nth_set (l : List Int) (i j : Nat) (x : Int) (h : i < l.length) : nth (l.set i x) j = if j = i then x else nth l j := by
  unfold nth
  rw [List.getD_eq_getElem?_getD, List.getD_eq_getElem?_getD, List.getElem?_set]
  by_cases e : i = j
  · subst e; simp [h]
  · rw [if_neg e, if_neg (fun x => e x.symm)]
theorem nth_snoc (l : List Int) (x : Int) (j : Nat) : nth (l ++ [x]) j = if j = l.length then x else nth l j := by
  unfold nth
  rw [List.getD_eq_getElem?_getD, List.getD_eq_getElem?_getD, List.getElem?_append]
  by_cases h : j < l.length
  · rw [if_pos h, if_neg (by omega)]
  · rw [if_neg h]
    by_cases e : j = l.length
    · subst e; simp
    · rw [if_neg e, List.getElem?_eq_none (by simp; omega), List.getElem?_eq_none (by omega)]
theorem nth_drop (l : List Int) (k i : Nat) : nth (l.drop k) i = nth l (k + i) := by
  unfold nth; rw [List.getD_eq_getElem?_getD, List.getD_eq_getElem?_getD, List.getElem?_drop]
theorem take_nth (l : List Int) (k : Nat) (h : k < l.length) : l.take (k + 1) = l.take k ++ [nth l k] := by
  rw [List.take_succ_eq_append_getElem h]; simp [nth, h]
theorem nth_mem (l : List Int) (k : Nat) (h : k < l.length) : nth l k ∈ l := by simp [nth, h]
theorem nth_rep (n i : Nat) (x : Int) (h : i < n) : nth (List.replicate n x) i = x := by simp [nth, h]
theorem nth_map (f : Int → Int) (l : List Int) (k : Nat) (h : k < l.length) : nth (l.map f) k = f (nth l k) := by simp [nth, h]
theorem ext_nth {l m : List Int} (h : l.length = m.length) (e : ∀ i, i < l.length → nth l i = nth m i) : l = m := by
  apply List.ext_getElem h
  intro i h1 h2
  have := e i h1
  simpa [nth, h1, h2] using this

/-! read-only -/
/-- the slice at a reads as the cells xs -/
def Sa (w : World) (a : Option Addr) (xs : List Value) : Prop := 0 < xs.length → ∃ b off, a = some ⟨b, off, none⟩ ∧ b < w.heap.size ∧ ∀ i, i < xs.length → w.cell? ⟨b, off + i, none⟩ = xs[i]?
theorem Sa.keep {w w' : World} {a : Option Addr} {xs : List Value} (h : Sa w a xs) (k : Below w.heap.size w w') : Sa w' a xs := by
  intro h0
  obtain ⟨b, off, e, hb, hc⟩ := h h0
  exact ⟨b, off, e, Nat.lt_of_lt_of_le hb k.size, fun i hi => by rw [← hc i hi]; exact k.cell (p := ⟨b, off + i, none⟩) hb⟩
theorem Sa.alloc {w : World} {a : Option Addr} {xs : List Value} (h : Sa w a xs) (o : Obj) : Sa (w.alloc o) a xs := h.keep (kin_alloc (Below.refl _ _) o)
theorem Sa.nil (w : World) (a : Option Addr) : Sa w a [] := fun h => absurd h (Nat.lt_irrefl 0)
theorem Sa.at {w : World} {a : Option Addr} {xs : List Value} (h : Sa w a xs) (i : Nat) (hi : i < xs.length) : ∃ b off, a = some ⟨b, off, none⟩ ∧ b < w.heap.size ∧ w.cell? ⟨b, off + i, none⟩ = xs[i]? := by
  obtain ⟨b, off, e, hb, hc⟩ := h (by omega)
  exact ⟨b, off, e, hb, hc i hi⟩
theorem Sa.int {w : World} {a : Option Addr} {l : List Int} (h : Sa w a (ints l)) (i : Nat) (hi : i < l.length) : ∃ b off, a = some ⟨b, off, none⟩ ∧ b < w.heap.size ∧ w.cell? ⟨b, off + i, none⟩ = some (.int .i64 (nth l i)) := by
  obtain ⟨b, off, e, hb, hc⟩ := h.at i (by rw [ints_len]; exact hi)
  exact ⟨b, off, e, hb, by rw [hc, ints_get l i hi]⟩
theorem Sa.take {w : World} {a : Option Addr} {xs : List Value} (h : Sa w a xs) (k : Nat) : Sa w a (xs.take k) := by
  intro h0
  rw [List.length_take] at h0
  obtain ⟨b, off, e, hb, hc⟩ := h (by omega)
  refine ⟨b, off, e, hb, fun i hi => ?_⟩
  rw [List.length_take] at hi
  rw [hc i (by omega), List.getElem?_take_of_lt (by omega)]
theorem Sa.drop {w : World} {b off : Nat} {xs : List Value} (h : Sa w (some ⟨b, off, none⟩) xs) (k : Nat) : Sa w (some ⟨b, off + k, none⟩) (xs.drop k) := by
  intro h0
  rw [List.length_drop] at h0
  obtain ⟨b', off', e, hb, hc⟩ := h (by omega)
  cases e
  refine ⟨b, off + k, rfl, hb, fun i hi => ?_⟩
  rw [List.length_drop] at hi
  rw [Nat.add_assoc, hc (k + i) (by omega), List.getElem?_drop]
theorem Sl.sa {w : World} {v : Value} {l : List Int} (h : Sl w v l) : ∃ a cap, v = .slice a l.length cap ∧ Sa w a (ints l) := by
  rcases h with ⟨rfl, a, cap, rfl⟩ | ⟨h0, b, off, cap, rfl, hb, hc⟩
  · exact ⟨a, cap, rfl, Sa.nil _ _⟩
  · exact ⟨_, cap, rfl, fun _ => ⟨b, off, rfl, hb, fun i hi => by rw [ints_len] at hi; rw [hc i hi, ints_get l i hi]; rfl⟩⟩
theorem Sa.sl {w : World} {a : Option Addr} {cap : Nat} {l : List Int} (h : Sa w a (ints l)) : Sl w (.slice a l.length cap) l := by
  by_cases h0 : 0 < l.length
  · obtain ⟨b, off, rfl, hb, hc⟩ := h (by rw [ints_len]; exact h0)
    exact .inr ⟨h0, b, off, cap, rfl, hb, fun i hi => by rw [hc i (by rw [ints_len]; exact hi), ints_get l i hi]; rfl⟩
  · have : l = [] := List.eq_nil_of_length_eq_zero (by omega)
    subst this
    exact .inl ⟨rfl, a, cap, rfl⟩
theorem IsRow.sa {w : World} {a : Option Addr} {len cap : Nat} {zs : List Int} (h : IsRow .i64 w a len cap zs) :
    Sa w a (ints (zs.take len)) ∧ (zs.take len).length = len ∧ len ≤ maxLen ∧ ∀ x ∈ zs.take len, -9223372036854775808 ≤ x ∧ x ≤ 9223372036854775807 := by
  obtain ⟨h1, h2, h3⟩ := h.sl
  refine ⟨?_, h2, h3, fun x hx => ?_⟩
  · obtain ⟨a', cap', e, hs⟩ := h1.sa
    simp only [Value.slice.injEq] at e
    obtain ⟨rfl, -, -⟩ := e
    exact hs
  · rcases h with ⟨_, _, _, rfl⟩ | ⟨_, _, _, _, _, _, hw⟩
    · simp at hx
    · have := hw x (List.mem_of_mem_take hx)
      simp [Lit.wf, go_sem] at this
      have e1 : IntKind.i64.min = -9223372036854775808 := by decide
      omega

theorem IsRow.cap {w : World} {a : Option Addr} {len cap : Nat} {zs : List Int} (h : IsRow .i64 w a len cap zs) : len ≤ cap := by
  rcases h with ⟨_, rfl, rfl, _⟩ | ⟨_, _, h, _⟩
  · exact Nat.le_refl _
  · exact h
/-! a call's own slices -/
/-- a slice of the call's own: its elements' type, its value, its cells -/
structure Ent where
  T : TypeId
  v : Value
  xs : List Value
def Ent.own (w : World) (base : Nat) (e : Ent) : Prop := w.ownsRow base e.T 1 e.v e.xs.length e.xs
def Far (a b : Ent) : Prop := a.v.ownBlock = none ∨ a.v.ownBlock ≠ b.v.ownBlock
theorem Far.symm {a b : Ent} (h : Far a b) : Far b a := by
  rcases h with h | h
  · by_cases hb : b.v.ownBlock = none
    · exact .inl hb
    · exact .inr (by rw [h]; exact hb)
  · exact .inr (Ne.symm h)
structure Oss (w : World) (base : Nat) (L : List Ent) : Prop where
  own : ∀ e ∈ L, e.own w base
  far : L.Pairwise Far
theorem Ent.own.elim {w : World} {base : Nat} {T : TypeId} {ad : Option Addr} {n cap : Nat} {xs : List Value} (h : Ent.own w base ⟨T, .slice ad n cap, xs⟩) :
    n = xs.length ∧ ((ad = none ∧ cap = 0 ∧ xs = []) ∨ ∃ g cur, ad = some ⟨g, 0, none⟩ ∧ base ≤ g ∧ w.heap[g]? = some (.cells cur T (0, 0)) ∧ n ≤ cap ∧ cap ≤ maxLen ∧ cur.size = cap ∧ cur.toList.take n = xs) := by
  obtain ⟨h1, h2⟩ := h
  rcases h2 with ⟨e, h2⟩ | ⟨g, cap', cur, e, h3, h4, h5, h6, h7, h8⟩
  · simp only [Value.slice.injEq] at e
    simp only at h2
    exact ⟨by rw [e.2.1, h2], .inl ⟨e.1, e.2.2, List.eq_nil_of_length_eq_zero h2⟩⟩
  · simp only [Value.slice.injEq] at e
    simp only [Nat.mul_one] at h4 h5 h7 h8
    obtain ⟨rfl, e2, rfl⟩ := e
    refine ⟨e2, .inr ⟨g, cur, rfl, h3, h4, by omega, h6, h7, by rw [e2]; exact h8⟩⟩
theorem Oss.nil (w : World) (base : Nat) : Oss w base [] := ⟨by simp, .nil⟩
theorem Oss.perm {w : World} {base : Nat} {L M : List Ent} (h : Oss w base L) (p : L.Perm M) : Oss w base M :=
  ⟨fun e he => h.own e (p.mem_iff.2 he), (p.pairwise_iff (fun h => h.symm)).1 h.far⟩
theorem Oss.sub {w : World} {base : Nat} {L M : List Ent} (h : Oss w base L) (p : M.Sublist L) : Oss w base M :=
  ⟨fun e he => h.own e (p.subset he), h.far.sublist p⟩
theorem Ent.own.lt {w : World} {base : Nat} {e : Ent} (h : e.own w base) : ∀ k, e.v.ownBlock = some k → base ≤ k ∧ k < w.heap.size := World.ownsRow.lt h
theorem Oss.kept {w w' : World} {base : Nat} {L : List Ent} {row : Option Nat} (h : Oss w base L) (hg : w.grownBy w' row) (hne : ∀ e ∈ L, e.v.ownBlock = none ∨ e.v.ownBlock ≠ row) : Oss w' base L :=
  ⟨fun e he => World.ownsRow.kept (h.own e he) hg (hne e he), h.far⟩
theorem Oss.keptAll {w w' : World} {base : Nat} {L : List Ent} (h : Oss w base L) (hg : w.grownBy w' none) : Oss w' base L :=
  h.kept hg fun e _ => by cases hv : e.v.ownBlock <;> simp
theorem grown0 {w w' : World} (b : Below w.heap.size w w') : w.grownBy w' none := ⟨b.os, b.tape, b.output, b.size, fun k hk _ => b.block k hk⟩
theorem Oss.mono {w : World} {base base' : Nat} {L : List Ent} (h : Oss w base L) (hb : base' ≤ base) : Oss w base' L := by
  refine ⟨fun e he => ?_, h.far⟩
  obtain ⟨h1, h2⟩ := h.own e he
  refine ⟨h1, ?_⟩
  rcases h2 with h2 | ⟨g, cap, cur, e1, e2, e3⟩
  · exact .inl h2
  · exact .inr ⟨g, cap, cur, e1, Nat.le_trans hb e2, e3⟩
theorem Oss.append {w : World} {base base' : Nat} {L M : List Ent} (h : Oss w base L) (k : Oss w base' M) (hb : base ≤ base') (hlt : ∀ e ∈ L, ∀ k, e.v.ownBlock = some k → k < base') : Oss w base (M ++ L) := by
  have k' := k.mono hb
  refine ⟨fun e he => ?_, List.pairwise_append.2 ⟨k.far, h.far, fun a ha b hb' => ?_⟩⟩
  · rcases List.mem_append.1 he with he | he
    · exact k'.own e he
    · exact h.own e he
  · by_cases hv : a.v.ownBlock = none
    · exact .inl hv
    · refine .inr fun e => ?_
      cases hk : a.v.ownBlock with
      | none => exact hv hk
      | some n =>
        have h1 := (Ent.own.lt (k.own a ha) n hk).1
        have h2 := hlt b hb' n (by rw [← e]; exact hk)
        omega

/-- since the call began (at w0) nothing old has turned, and these are slices of its own, apart from each other -/
structure Fr (w0 w : World) (L : List Ent) : Prop where
  bel : Below w0.heap.size w0 w
  os : Oss w w0.heap.size L
theorem Fr.start (w : World) : Fr w w [] := ⟨Below.refl _ _, Oss.nil _ _⟩
theorem Fr.perm {w0 w : World} {L M : List Ent} (h : Fr w0 w L) (p : L.Perm M) : Fr w0 w M := ⟨h.bel, h.os.perm p⟩
theorem Fr.swap {w0 w : World} {a b : Ent} {L : List Ent} (h : Fr w0 w (a :: b :: L)) : Fr w0 w (b :: a :: L) := h.perm (.swap _ _ _)
theorem Fr.rot {w0 w : World} {a b c : Ent} {L : List Ent} (h : Fr w0 w (a :: b :: c :: L)) : Fr w0 w (c :: a :: b :: L) :=
  h.perm (List.Perm.trans (.cons _ (.swap _ _ _)) (.swap _ _ _))
theorem Fr.sub {w0 w : World} {L M : List Ent} (h : Fr w0 w L) (p : M.Sublist L) : Fr w0 w M := ⟨h.bel, h.os.sub p⟩
theorem Fr.tail {w0 w : World} {e : Ent} {L : List Ent} (h : Fr w0 w (e :: L)) : Fr w0 w L := h.sub (List.sublist_cons_self _ _)
theorem Fr.below {w0 w : World} {L : List Ent} (h : Fr w0 w L) : Fr w0 w [] := ⟨h.bel, Oss.nil _ _⟩
/-- a callee that leaves what was there as it was -/
theorem Fr.keep {w0 w w' : World} {L : List Ent} (h : Fr w0 w L) (b : Below w.heap.size w w') : Fr w0 w' L := ⟨kin_trans h.bel b, h.os.keptAll (grown0 b)⟩
theorem Fr.alloc {w0 w : World} {L : List Ent} (h : Fr w0 w L) (o : Obj) : Fr w0 (w.alloc o) L := h.keep (kin_alloc (Below.refl _ _) o)
theorem Fr.drew {w0 w : World} {L : List Ent} (h : Fr w0 w L) : Fr w0 w.drew L := h.keep (Below.refl _ _).drew
theorem Fr.drewN {w0 w : World} {L : List Ent} (h : Fr w0 w L) (n : Nat) : Fr w0 (w.drewN n) L := h.keep ⟨rfl, rfl, rfl, Nat.le_refl _, fun _ _ => rfl⟩
/-- a callee that hands back slices of its own -/
theorem Fr.call {w0 w w' : World} {L M : List Ent} (h : Fr w0 w L) (b : Fr w w' M) : Fr w0 w' (M ++ L) := by
  refine ⟨kin_trans h.bel b.bel, (h.keep b.bel).os.append b.os h.bel.size fun e he k hk => ?_⟩
  exact (Ent.own.lt (h.os.own e he) k hk).2
theorem Fr.nilSlice {w0 w : World} {L : List Ent} (h : Fr w0 w L) (T : TypeId) : Fr w0 w (⟨T, .slice none 0 0, []⟩ :: L) :=
  ⟨h.bel, ⟨fun e he => by
    rcases List.mem_cons.1 he with rfl | he
    · exact ⟨rfl, .inl ⟨rfl, rfl⟩⟩
    · exact h.os.own e he, List.pairwise_cons.2 ⟨fun b _ => .inl rfl, h.os.far⟩⟩⟩
/-- a new block whose cells are known -/
theorem Fr.new {w0 w : World} {L : List Ent} (h : Fr w0 w L) (T : TypeId) (cs : Array Value) (xs : List Value) (e : cs.toList = xs) (n : Nat) (hn : n = xs.length) (hl : n ≤ 1000000) :
    Fr w0 (w.alloc (.cells cs T)) (⟨T, .slice (some ⟨w.heap.size, 0, none⟩) n n, xs⟩ :: L) := by
  subst e hn
  have ha := h.alloc (.cells cs T)
  refine ⟨ha.bel, ⟨fun e he => ?_, List.pairwise_cons.2 ⟨fun b hb => .inr ?_, h.os.far⟩⟩⟩
  · rcases List.mem_cons.1 he with rfl | he
    · have := World.ownsRow_lit (size := 1) (e := T) w cs cs.toList.length h.bel.size (by unfold maxLen; omega) (by simp)
      exact this
    · exact ha.os.own e he
  · intro e
    have := (Ent.own.lt (h.os.own b hb) _ e.symm).2
    simp only at this
    omega
/-- a store into the first of them -/
theorem Fr.set {w0 w : World} {L : List Ent} {T : TypeId} {g n cap : Nat} {xs : List Value} (h : Fr w0 w (⟨T, .slice (some ⟨g, 0, none⟩) n cap, xs⟩ :: L)) (i : Nat) (y : Value) :
    Fr w0 (w.setCell ⟨g, i, none⟩ y) (⟨T, .slice (some ⟨g, 0, none⟩) n cap, xs.set i y⟩ :: L) := by
  have hO := h.os.own _ List.mem_cons_self
  have hg := (Ent.own.lt hO g rfl).1
  have hlen : n = xs.length := hO.elim.1
  subst hlen
  have hs := World.ownsRow.stored hO i y
  refine ⟨h.bel.setCell hg y, ⟨fun e he => ?_, ?_⟩⟩
  · rcases List.mem_cons.1 he with rfl | he
    · have := hs.1
      unfold Ent.own
      simpa using this
    · refine World.ownsRow.kept (h.os.own e (List.mem_cons_of_mem _ he)) hs.2 ?_
      have := (List.pairwise_cons.1 h.os.far).1 e he
      exact this.symm
  · have := List.pairwise_cons.1 h.os.far
    exact List.pairwise_cons.2 ⟨fun b hb => this.1 b hb, this.2⟩
theorem Fr.setInt {w0 w : World} {L : List Ent} {T : TypeId} {g n cap : Nat} {l : List Int} (h : Fr w0 w (⟨T, .slice (some ⟨g, 0, none⟩) n cap, ints l⟩ :: L)) (i : Nat) (y : Int) :
    Fr w0 (w.setCell ⟨g, i, none⟩ (.int .i64 y)) (⟨T, .slice (some ⟨g, 0, none⟩) n cap, ints (l.set i y)⟩ :: L) := by
  rw [← ints_set]; exact h.set i _
/-- what the first of them holds -/
theorem Fr.open {w0 w : World} {L : List Ent} {T : TypeId} {ad : Option Addr} {n cap : Nat} {xs : List Value} (h : Fr w0 w (⟨T, .slice ad n cap, xs⟩ :: L)) (h0 : 0 < xs.length) :
    ∃ g, ad = some ⟨g, 0, none⟩ ∧ w0.heap.size ≤ g ∧ g < w.heap.size ∧ (∀ i, i < xs.length → w.cell? ⟨g, i, none⟩ = xs[i]?) ∧ ∀ i, w.frozen? ⟨g, i, none⟩ = false := by
  have hO := h.os.own _ List.mem_cons_self
  rcases hO.elim with ⟨rfl, ⟨h1, h2, h3⟩ | ⟨g, cur, rfl, h2, h3, h4⟩⟩
  · rw [h3] at h0; simp at h0
  · exact ⟨g, rfl, h2, (Array.getElem?_eq_some_iff.1 h3).1, fun i hi => World.ownsRow.cellAt hO i (by simpa using hi), fun i => World.ownsRow.frozenAt hO i⟩
theorem Fr.len {w0 w : World} {L : List Ent} {T : TypeId} {ad : Option Addr} {n cap : Nat} {xs : List Value} (h : Fr w0 w (⟨T, .slice ad n cap, xs⟩ :: L)) : n = xs.length :=
  (h.os.own _ List.mem_cons_self).elim.1
theorem Fr.isSlice {w0 w : World} {L : List Ent} {T : TypeId} {v : Value} {xs : List Value} (h : Fr w0 w (⟨T, v, xs⟩ :: L)) : ∃ ad cap, v = .slice ad xs.length cap := by
  rcases (h.os.own _ List.mem_cons_self).2 with ⟨h1, h2⟩ | ⟨g, cap', cur, h1, h2, h3, h4⟩
  · exact ⟨none, 0, by rw [show v = .slice none 0 0 from h1, show xs.length = 0 from h2]⟩
  · exact ⟨_, _, h1⟩
/-- one of them is read -/
theorem Fr.get {w0 w : World} {L : List Ent} (h : Fr w0 w L) (i : Nat) {T : TypeId} {ad : Option Addr} {n cap : Nat} {xs : List Value} (he : L[i]? = some ⟨T, .slice ad n cap, xs⟩) : Sa w ad xs := by
  have hO := h.os.own _ (List.mem_of_getElem? he)
  intro h0
  rcases hO.elim with ⟨rfl, ⟨h1, h2, h3⟩ | ⟨g, cur, rfl, h2, h3, h4⟩⟩
  · rw [h3] at h0; simp at h0
  · exact ⟨g, 0, rfl, (Array.getElem?_eq_some_iff.1 h3).1, fun i hi => by rw [Nat.zero_add]; exact World.ownsRow.cellAt hO i (by simpa using hi)⟩
theorem Fr.old {w0 w : World} {L : List Ent} {a : Option Addr} {xs : List Value} (h : Fr w0 w L) (hs : Sa w0 a xs) : Sa w a xs := hs.keep h.bel
/-- the first m of the first one -/
theorem Fr.cut {w0 w : World} {L : List Ent} {T : TypeId} {ad : Option Addr} {n cap : Nat} {xs : List Value} (h : Fr w0 w (⟨T, .slice ad n cap, xs⟩ :: L)) (m : Nat) (hm : m ≤ xs.length) :
    Fr w0 w (⟨T, .slice ad m cap, xs.take m⟩ :: L) := by
  refine ⟨h.bel, ⟨fun e he => ?_, ?_⟩⟩
  · rcases List.mem_cons.1 he with rfl | he
    · have hl : (xs.take m).length = m := by rw [List.length_take]; omega
      rcases (h.os.own _ List.mem_cons_self).elim with ⟨rfl, ⟨rfl, rfl, rfl⟩ | ⟨g, cur, rfl, h2, h3, h4, h5, h6, h7⟩⟩
      · have hm0 : m = 0 := by simpa using hm
        subst hm0
        exact ⟨rfl, .inl ⟨rfl, rfl⟩⟩
      · refine ⟨by simp, .inr ⟨g, cap, cur, ?_, h2, h3, ?_, h5, by omega, ?_⟩⟩
        · show Value.slice _ m cap = _; rw [hl]
        · rw [hl]; omega
        · rw [hl]
          show cur.toList.take (m * 1) = xs.take m
          conv => rhs; rw [← h7]
          rw [List.take_take]; congr 1; omega
    · exact h.os.own e (List.mem_cons_of_mem _ he)
  · have := List.pairwise_cons.1 h.os.far
    refine List.pairwise_cons.2 ⟨fun b hb => ?_, this.2⟩
    have hf := this.1 b hb
    cases ad <;> exact hf

/-- append of one cell to the first of them -/
theorem wpList_push {ops : Array Oper} {rest : List Oper} {o : Oper} {a : Act} {Q : Exit → Act → World → Prop} {w0 w : World} (hgd : o.guard = none) (s x : Operand) (S T : TypeId) (z : Value) (bytes : Nat)
    (hS : Try.prog.underlying S = some (.slice T)) (hT : (Try.prog.info? T).map (fun i => (i.zero, i.size, i.bytes)) = some (some z, 1, bytes)) (hz : z.cells.size = 1) (hby : bytes ≤ 1000)
    (ho : o.op = .call { callee := .builtin .append, args := #[s, x], argTypes := #[S, S] })
    (ad : Option Addr) (n cap : Nat) (xs : List Value) (y : Value) (L : List Ent) (hs : a.eval s = .slice ad n cap) (hF : Fr w0 w (⟨T, .slice ad n cap, xs⟩ :: L))
    (hx : a.eval x = .slice (some ⟨w.heap.size, 0, none⟩) 1 1) (hy : y.oneCell' = true) (hlen : n ≤ 1000000)
    (h : ∀ ad' cap' w', Fr w0 w' (⟨T, .slice ad' (n + 1) cap', xs ++ [y]⟩ :: L) → w.heap.size < w'.heap.size → wpList Try.prog ops Q rest (a.put o.dst (.slice ad' (n + 1) cap')) w') :
    wpList Try.prog ops Q (o :: rest) a (w.alloc (.cells #[y] T)) := by
  obtain ⟨i0, hi, hz0, hz1, hz2⟩ := info_parts hT
  have hn := hF.len
  subst hn
  have hO := hF.os.own _ List.mem_cons_self
  refine wpList_append_own_at _ hgd s x S ho w0.heap.size T i0 z 1 bytes hS hi hz0 hz1 hz2 hz (by decide) (.slice ad xs.length cap) xs.length xs hs (World.ownsRow.alloc hO _)
    ⟨w.heap.size, 0, none⟩ 1 1 [y] hx rfl (cell_one_new _ _ _) ?_ ?_ ?_ ?_ ?_
  · intro u hu; simp at hu; subst hu; exact hy
  · unfold maxLen; omega
  · calc (xs.length + 1) * bytes ≤ 1000001 * 1000 := Nat.mul_le_mul (by omega) hby
      _ ≤ _ := by omega
  · have := hF.bel.size; simp; omega
  · intro v' w' h1 h2 hnil hat
    have hsz := h2.size
    have hsz0 : (w.alloc (.cells #[y] T)).heap.size = w.heap.size + 1 := by simp
    have hb0 := hF.bel.size
    obtain ⟨ad', cap', rfl⟩ : ∃ ad' cap', v' = .slice ad' (xs.length + 1) cap' := by
      rcases h1.2 with ⟨e1, e2⟩ | ⟨g, cap', cur, e1, _⟩
      · omega
      · exact ⟨_, _, e1⟩
    refine h ad' cap' w' ⟨?_, ⟨fun e he => ?_, ?_⟩⟩ (by omega)
    · refine Below.grown (row := (Value.slice ad xs.length cap).ownBlock) (hF.alloc _).bel h2 (by omega) ?_
      intro k hk
      exact (Ent.own.lt hO k hk).1
    · rcases List.mem_cons.1 he with rfl | he
      · unfold Ent.own; simpa using h1
      · refine World.ownsRow.kept ((hF.alloc _).os.own e (List.mem_cons_of_mem _ he)) h2 ?_
        exact ((List.pairwise_cons.1 hF.os.far).1 e he).symm
    · have hf := List.pairwise_cons.1 hF.os.far
      refine List.pairwise_cons.2 ⟨fun b hb => ?_, hf.2⟩
      have hbf := hf.1 b hb
      have hlt := Ent.own.lt (hF.os.own b (List.mem_cons_of_mem _ hb))
      rcases hat with hat | hat
      · rcases hbf with hbf | hbf
        · exact .inl (show (Value.slice ad' (xs.length + 1) cap').ownBlock = none by rw [hat]; exact hbf)
        · exact .inr (show (Value.slice ad' (xs.length + 1) cap').ownBlock ≠ _ by rw [hat]; exact hbf)
      · refine .inr (show (Value.slice ad' (xs.length + 1) cap').ownBlock ≠ _ from ?_)
        rw [hat]
        intro e
        have := (hlt _ e.symm).2
        omega

/-- append of one int to the first of them -/
theorem wpList_pushInt {ops : Array Oper} {rest : List Oper} {o : Oper} {a : Act} {Q : Exit → Act → World → Prop} {w0 w : World} (hgd : o.guard = none) (s x : Operand)
    (ho : o.op = .call { callee := .builtin .append, args := #[s, x], argTypes := #[32, 32] })
    (ad : Option Addr) (n cap : Nat) (l : List Int) (y : Int) (L : List Ent) (hs : a.eval s = .slice ad n cap) (hF : Fr w0 w (⟨3, .slice ad n cap, ints l⟩ :: L))
    (hx : a.eval x = .slice (some ⟨w.heap.size, 0, none⟩) 1 1) (hlen : n ≤ 1000000)
    (h : ∀ ad' cap' w', Fr w0 w' (⟨3, .slice ad' (n + 1) cap', ints (l ++ [y])⟩ :: L) → w.heap.size < w'.heap.size → wpList Try.prog ops Q rest (a.put o.dst (.slice ad' (n + 1) cap')) w') :
    wpList Try.prog ops Q (o :: rest) a (w.alloc (.cells #[.int .i64 y] 3)) :=
  wpList_push hgd s x 32 3 (.int .i64 0) 8 Try.underlying32 intInfo rfl (by omega) ho ad n cap (ints l) (.int .i64 y) L hs hF hx rfl hlen
    (fun ad' cap' w' hF' hlt => h ad' cap' w' (by rw [← ints_snoc]; exact hF') hlt)

/-- make([]int, n) -/
theorem Fr.makeInts {w0 w : World} {L : List Ent} (h : Fr w0 w L) (n : Nat) (hl : n ≤ 1000000) :
    Fr w0 (w.alloc (.cells (rowCells n (fun _ => 0)) 3)) (⟨3, .slice (some ⟨w.heap.size, 0, none⟩) n n, ints (List.replicate n 0)⟩ :: L) := by
  refine h.new 3 _ _ ?_ n (by rw [ints_len]; simp) hl
  rw [← ints_rep]
  simp [rowCells, List.map_const']
/-- the contract's end of a call that hands back one slice of ints of its own -/
def Made (l : List Int) (w w' : World) (ad : Option Addr) (cap : Nat) : Prop := Fr w w' [⟨3, .slice ad l.length cap, ints l⟩]
end Go.Proofs.Ytooghdnlaonkaaa
/- copy into a call's own slice; capacities. -/
namespace Go.Proofs.Ytooghdnlaonkaaa
open Go.RowKit

theorem Fr.cap {w0 w : World} {L : List Ent} {T : TypeId} {ad : Option Addr} {n cap : Nat} {xs : List Value} (h : Fr w0 w (⟨T, .slice ad n cap, xs⟩ :: L)) : n ≤ cap := by
  rcases (h.os.own _ List.mem_cons_self).elim with ⟨rfl, ⟨rfl, rfl, rfl⟩ | ⟨g, cur, rfl, h2, h3, h4, h5, h6, h7⟩⟩
  · simp
  · exact h4
theorem Fr.setRow {w0 w : World} {L : List Ent} {T : TypeId} {g n cap : Nat} {xs : List Value} (h : Fr w0 w (⟨T, .slice (some ⟨g, 0, none⟩) n cap, xs⟩ :: L)) (cur : Array Value) (hg : w.heap[g]? = some (.cells cur T (0, 0)))
    (cs : Array Value) (hs : cs.size = cur.size) (ys : List Value) (hy : cs.toList.take n = ys) :
    Fr w0 (w.setRow g cs) (⟨T, .slice (some ⟨g, 0, none⟩) n cap, ys⟩ :: L) := by
  have hO := h.os.own _ List.mem_cons_self
  have hbg := (Ent.own.lt hO g rfl).1
  obtain ⟨hn, h1⟩ := hO.elim
  rcases h1 with ⟨h1, _⟩ | ⟨g', cur', h1, h2, h3, h4, h5, h6, h7⟩
  · cases h1
  · cases h1
    rw [hg] at h3
    cases h3
    have hgr : w.grownBy (w.setRow g cs) (some g) := ⟨rfl, rfl, rfl, by simp, fun k _ hk => setRow_other w g k cs (fun e => hk (by rw [e]))⟩
    have hyl : ys.length = n := by rw [← hy, List.length_take]; simp; omega
    refine ⟨below_setRow h.bel hbg _, ⟨fun e he => ?_, ?_⟩⟩
    · rcases List.mem_cons.1 he with rfl | he
      · refine ⟨by simp, .inr ⟨g, cap, cs, ?_, hbg, setRow_heap w g cur cs T _ hg, ?_, h5, by simp; omega, ?_⟩⟩
        · show Value.slice _ n cap = .slice _ ys.length cap; rw [hyl]
        · show ys.length ≤ cap; omega
        · show cs.toList.take (ys.length * 1) = ys; rw [Nat.mul_one, hyl]; exact hy
      · refine World.ownsRow.kept (h.os.own e (List.mem_cons_of_mem _ he)) hgr ?_
        exact ((List.pairwise_cons.1 h.os.far).1 e he).symm
    · have := List.pairwise_cons.1 h.os.far
      exact List.pairwise_cons.2 ⟨fun b hb => this.1 b hb, this.2⟩

theorem Sl.drewN {w : World} {v : Value} {l : List Int} (h : Sl w v l) (n : Nat) : Sl (w.drewN n) v l := h.keep ⟨rfl, rfl, rfl, Nat.le_refl _, fun _ _ => rfl⟩
theorem Sa.drewN {w : World} {a : Option Addr} {xs : List Value} (h : Sa w a xs) (n : Nat) : Sa (w.drewN n) a xs := h.keep ⟨rfl, rfl, rfl, Nat.le_refl _, fun _ _ => rfl⟩
/-- selects the operation that writes slot n -/
theorem at_slot (n : Nat) {P : Program} {ops : Array Oper} {Q : Exit → Act → World → Prop} {rest : List Oper} {a : Act} {w : World} {op : Op} {ty : TypeId} {pos : String} {af : Array Edge} {gd : Option (Nat × Bool)}
    (h : wpList P ops Q (⟨some n, op, ty, pos, af, gd⟩ :: rest) a w) : wpList P ops Q (⟨some n, op, ty, pos, af, gd⟩ :: rest) a w := h
/-- min of two, three, four: the walk takes it for a rule -/
theorem run_min2 (ts : Array TypeId) (t : TypeId) (x : Nat) (z : Int) (n : Nat) (h1 : n ≤ x) (h2 : (n : Int) ≤ z) (h : n = x ∨ (n : Int) = z) (w : World) :
    Sem.run Try.prog (Builtin.min_ ts t #[.int .i64 (x : Int), .int .i64 z]) w = .ok (.int .i64 (n : Int)) w := by
  simp only [Builtin.min_, List.foldlM_cons, List.foldlM_nil, Builtin.min2, pure_bind]
  rw [show (if z < (x : Int) then z else (x : Int)) = (n : Int) from by split <;> omega]
  rfl
theorem run_min3 (ts : Array TypeId) (t : TypeId) (x y : Nat) (z : Int) (n : Nat) (h1 : n ≤ x) (h2 : n ≤ y) (h3 : (n : Int) ≤ z) (h : n = x ∨ n = y ∨ (n : Int) = z) (w : World) :
    Sem.run Try.prog (Builtin.min_ ts t #[.int .i64 (x : Int), .int .i64 (y : Int), .int .i64 z]) w = .ok (.int .i64 (n : Int)) w := by
  simp only [Builtin.min_, List.foldlM_cons, List.foldlM_nil, Builtin.min2, pure_bind]
  rw [show (if z < (if (y : Int) < (x : Int) then (y : Int) else (x : Int)) then z else (if (y : Int) < (x : Int) then (y : Int) else (x : Int))) = (n : Int) from by split <;> split <;> omega]
  rfl
theorem run_min4 (ts : Array TypeId) (t : TypeId) (x y u : Nat) (z : Int) (n : Nat) (h1 : n ≤ x) (h2 : n ≤ y) (h2' : n ≤ u) (h3 : (n : Int) ≤ z) (h : n = x ∨ n = y ∨ n = u ∨ (n : Int) = z) (w : World) :
    Sem.run Try.prog (Builtin.min_ ts t #[.int .i64 (x : Int), .int .i64 (y : Int), .int .i64 (u : Int), .int .i64 z]) w = .ok (.int .i64 (n : Int)) w := by
  simp only [Builtin.min_, List.foldlM_cons, List.foldlM_nil, Builtin.min2, pure_bind]
  rw [show (if z < (if (u : Int) < (if (y : Int) < (x : Int) then (y : Int) else (x : Int)) then (u : Int) else (if (y : Int) < (x : Int) then (y : Int) else (x : Int))) then z else (if (u : Int) < (if (y : Int) < (x : Int) then (y : Int) else (x : Int)) then (u : Int) else (if (y : Int) < (x : Int) then (y : Int) else (x : Int)))) = (n : Int) from by repeat' split <;> omega]
  rfl
theorem ints_one (l : List Int) : ∀ v ∈ ints l, v.oneCell' = true := ints_oneCell .i64 l
theorem intSize : (Try.prog.info? 3).map (·.size) = some 1 := by kernel_rfl
/-- a slice literal -/
theorem Fr.lit {w0 w : World} {L : List Ent} (h : Fr w0 w L) (l : List Int) (cs : Array Value) (e : cs.toList = ints l) (n : Nat) (hn : n = l.length) (hl : n ≤ 1000000) (T : TypeId) :
    Fr w0 (w.alloc (.cells cs T)) (⟨T, .slice (some ⟨w.heap.size, 0, none⟩) n n, ints l⟩ :: L) := h.new T cs (ints l) e n (by rw [ints_len]; exact hn) hl
theorem Fr.lit' {w0 w : World} {L : List Ent} (h : Fr w0 w L) (l : List Int) (cs : Array Value) (e : cs.toList = ints l) (n : Nat) (hn : n = l.length) (hl : n ≤ 1000000) (T : TypeId) (N : Nat) (hN : w.heap.size = N) :
    Fr w0 (w.alloc (.cells cs T)) (⟨T, .slice (some ⟨N, 0, none⟩) n n, ints l⟩ :: L) := by subst hN; exact h.lit l cs e n hn hl T
theorem Fr.makeInts' {w0 w : World} {L : List Ent} (h : Fr w0 w L) (n : Nat) (hl : n ≤ 1000000) (N : Nat) (hN : w.heap.size = N) :
    Fr w0 (w.alloc (.cells (rowCells n (fun _ => 0)) 3)) (⟨3, .slice (some ⟨N, 0, none⟩) n n, ints (List.replicate n 0)⟩ :: L) := by subst hN; exact h.makeInts n hl
theorem Sa.sl' {w : World} {a : Option Addr} {l : List Int} (h : Sa w a (ints l)) (n cap : Nat) (hn : l.length = n) : Sl w (.slice a n cap) l := by subst hn; exact h.sl
/-- copy into the first of them, from its head on -/
theorem wpList_copyFr {ops : Array Oper} {rest : List Oper} {o : Oper} {a : Act} {Q : Exit → Act → World → Prop} {w0 w : World} (hgd : o.guard = none) (d s : Operand) (S S' T : TypeId)
    (hS : Try.prog.underlying S = some (.slice T)) (hsz : (Try.prog.info? T).map (·.size) = some 1)
    (ho : o.op = .call { callee := .builtin .copy, args := #[d, s], argTypes := #[S, S'] })
    (ad sp : Option Addr) (n cap m scap : Nat) (xs ys : List Value) (L : List Ent) (hd : a.eval d = .slice ad n cap) (hs : a.eval s = .slice sp m scap) (hF : Fr w0 w (⟨T, .slice ad n cap, xs⟩ :: L))
    (hY : Sa w sp ys) (hm : ys.length = m) (hmn : m ≤ n) (h1 : ∀ v ∈ ys, v.oneCell' = true)
    (h : ∀ w', Fr w0 w' (⟨T, .slice ad n cap, ys ++ xs.drop m⟩ :: L) → w.heap.size ≤ w'.heap.size → wpList Try.prog ops Q rest (a.put o.dst (goInt m)) w') :
    wpList Try.prog ops Q (o :: rest) a w := by
  by_cases h0 : m = 0
  · subst h0
    obtain rfl := List.eq_nil_of_length_eq_zero hm
    refine wpList_copy_nothing hgd d s S S' ho T hS hsz ad sp n cap 0 scap hd hs (by simp) ?_
    exact h w hF (Nat.le_refl _)
  · obtain ⟨b, off, rfl, hb, hc⟩ := hY (by omega)
    have hO := hF.os.own _ List.mem_cons_self
    obtain ⟨hn, h2⟩ := hO.elim
    rcases h2 with ⟨_, _, rfl⟩ | ⟨g, cur, rfl, h2, h3, h4, h5, h6, h7⟩
    · simp at hn; omega
    · refine wpList_copy_own hgd d s S S' ho T hS hsz g 0 n cap ⟨b, off, none⟩ m scap hd hs cur T h3 ys (by rw [hm]; exact (Nat.min_eq_left hmn).symm) ?_ (by omega) h1 ?_
      · intro j v hj
        have hjl : j < ys.length := (List.getElem?_eq_some_iff.1 hj).1
        have := hc j hjl
        rw [show ((⟨b, off, none⟩ : Addr).add j) = ⟨b, off + j, none⟩ from by unfold Addr.add; split <;> simp_all, this, hj]
      · rw [hm]
        refine h _ (hF.setRow cur h3 _ ?_ _ ?_) (by simp)
        · simp; omega
        · simp only [List.take_zero, List.nil_append, Nat.zero_add]
          rw [← h7, List.take_append, hm, List.take_of_length_le (by omega), List.take_drop, show m + (n - m) = n from by omega]
end Go.Proofs.Ytooghdnlaonkaaa
/- append of a whole slice; rows of slices. -/
namespace Go.Proofs.Ytooghdnlaonkaaa
open Go.RowKit

theorem Fr.none {w0 w : World} {L : List Ent} {T : TypeId} {ad : Option Addr} {n cap : Nat} {xs : List Value} (h : Fr w0 w (⟨T, .slice ad n cap, xs⟩ :: L)) (e : ad = .none) : n = 0 ∧ cap = 0 := by
  rcases (h.os.own _ List.mem_cons_self).elim with ⟨rfl, ⟨rfl, rfl, rfl⟩ | ⟨g, cur, rfl, h2, h3, h4, h5, h6, h7⟩⟩
  · exact ⟨rfl, rfl⟩
  · cases e
/-- append of the cells of another slice to the first of them -/
theorem wpList_pushAll {ops : Array Oper} {rest : List Oper} {o : Oper} {a : Act} {Q : Exit → Act → World → Prop} {w0 w : World} (hgd : o.guard = .none) (s x : Operand) (S T : TypeId) (z : Value) (bytes : Nat)
    (hS : Try.prog.underlying S = some (.slice T)) (hT : (Try.prog.info? T).map (fun i => (i.zero, i.size, i.bytes)) = some (some z, 1, bytes)) (hz : z.cells.size = 1) (hby : bytes ≤ 1000)
    (ho : o.op = .call { callee := .builtin .append, args := #[s, x], argTypes := #[S, S] })
    (ad sp : Option Addr) (n cap m c : Nat) (xs ys : List Value) (L : List Ent) (hs : a.eval s = .slice ad n cap) (hF : Fr w0 w (⟨T, .slice ad n cap, xs⟩ :: L))
    (hx : a.eval x = .slice sp m c) (hY : Sa w sp ys) (hm : ys.length = m) (hnone : sp = .none → c = 0 ∧ m = 0) (h1 : ∀ u ∈ ys, u.oneCell' = true) (hlen : n + m ≤ 1000000)
    (h : ∀ ad' cap' w', Fr w0 w' (⟨T, .slice ad' (n + m) cap', xs ++ ys⟩ :: L) → w.heap.size ≤ w'.heap.size → wpList Try.prog ops Q rest (a.put o.dst (.slice ad' (n + m) cap')) w') :
    wpList Try.prog ops Q (o :: rest) a w := by
  obtain ⟨i0, hi, hz0, hz1, hz2⟩ := info_parts hT
  have hn := hF.len
  have hO := hF.os.own _ List.mem_cons_self
  cases sp with
  | none =>
    obtain ⟨rfl, rfl⟩ := hnone rfl
    obtain rfl := List.eq_nil_of_length_eq_zero hm
    subst hn
    refine wpList_append_own_none hgd s x S ho w0.heap.size T i0 1 hS hi (.slice ad xs.length cap) xs.length xs hs (by rw [← hz1]; exact hz1 ▸ hO) hx ?_
    exact h ad cap w (by simpa using hF) (Nat.le_refl _)
  | some sad =>
    subst hn
    refine wpList_append_own_at _ hgd s x S ho w0.heap.size T i0 z 1 bytes hS hi hz0 hz1 hz2 hz (by decide) (.slice ad xs.length cap) xs.length xs hs hO
      sad m c ys hx (by omega) ?_ h1 ?_ ?_ ?_ ?_
    · intro j u hj
      have hjl : j < ys.length := (List.getElem?_eq_some_iff.1 hj).1
      obtain ⟨b, off, e, _, hc⟩ := hY.at j hjl
      cases e
      rw [show ((⟨b, off, .none⟩ : Addr).add j) = ⟨b, off + j, .none⟩ from by unfold Addr.add; split <;> simp_all, hc, hj]
    · unfold maxLen; omega
    · calc (xs.length + m) * bytes ≤ 1000001 * 1000 := Nat.mul_le_mul (by omega) hby
        _ ≤ _ := by omega
    · exact hF.bel.size
    · intro v' w' k1 k2 hnil hat
      have hsz := k2.size
      have hb0 := hF.bel.size
      have e1 : (xs ++ ys).length = xs.length + m := by rw [List.length_append, hm]
      obtain ⟨ad', cap', rfl⟩ : ∃ ad' cap', v' = .slice ad' (xs.length + m) cap' := by
        rcases k1.2 with ⟨e1, e2⟩ | ⟨g, cap', cur, e1, _⟩
        · exact ⟨.none, 0, by rw [e2, e1]⟩
        · exact ⟨_, _, e1⟩
      refine h ad' cap' w' ⟨?_, ⟨fun e he => ?_, ?_⟩⟩ (by omega)
      · refine Below.grown (row := (Value.slice ad xs.length cap).ownBlock) hF.bel k2 (by omega) ?_
        intro k hk
        exact (Ent.own.lt hO k hk).1
      · rcases List.mem_cons.1 he with rfl | he
        · unfold Ent.own; simp only [e1]; exact k1
        · refine World.ownsRow.kept (hF.os.own e (List.mem_cons_of_mem _ he)) k2 ?_
          exact ((List.pairwise_cons.1 hF.os.far).1 e he).symm
      · have hf := List.pairwise_cons.1 hF.os.far
        refine List.pairwise_cons.2 ⟨fun b hb => ?_, hf.2⟩
        have hbf := hf.1 b hb
        have hlt := Ent.own.lt (hF.os.own b (List.mem_cons_of_mem _ hb))
        rcases hat with hat | hat
        · rcases hbf with hbf | hbf
          · exact .inl (show (Value.slice ad' (xs.length + m) cap').ownBlock = .none by rw [hat]; exact hbf)
          · exact .inr (show (Value.slice ad' (xs.length + m) cap').ownBlock ≠ _ by rw [hat]; exact hbf)
        · refine .inr (show (Value.slice ad' (xs.length + m) cap').ownBlock ≠ _ from ?_)
          rw [hat]
          intro e
          have := (hlt _ e.symm).2
          omega

/-- a copy of a slice of ints: append([]int{}, l...) -/
theorem wpList_copyOf {ops : Array Oper} {rest : List Oper} {o : Oper} {a : Act} {Q : Exit → Act → World → Prop} {w0 w : World} (hgd : o.guard = .none) (s x : Operand)
    (ho : o.op = .call { callee := .builtin .append, args := #[s, x], argTypes := #[32, 32] })
    (ad0 sp : Option Addr) (n c : Nat) (l : List Int) (L : List Ent) (hs : a.eval s = .slice ad0 0 0) (hF : Fr w0 w (⟨3, .slice ad0 0 0, ints []⟩ :: L))
    (hx : a.eval x = .slice sp n c) (hY : Sa w sp (ints l)) (hm : (ints l).length = n) (hnone : sp = .none → c = 0 ∧ n = 0) (hlen : n ≤ 1000000)
    (h : ∀ ad' cap' w', Fr w0 w' (⟨3, .slice ad' n cap', ints l⟩ :: L) → w.heap.size ≤ w'.heap.size → wpList Try.prog ops Q rest (a.put o.dst (.slice ad' n cap')) w') :
    wpList Try.prog ops Q (o :: rest) a w := by
  refine wpList_pushAll hgd s x 32 3 (.int .i64 0) 8 Try.underlying32 intInfo rfl (by omega) ho ad0 sp 0 0 n c (ints []) (ints l) L hs hF hx hY hm hnone (ints_oneCell .i64 l) (by omega) ?_
  intro ad' cap' w' h1 h2
  rw [Nat.zero_add] at h1 ⊢
  exact h ad' cap' w' h1 h2
/-- one number of the first of them -/
theorem Fr.openI {w0 w : World} {L : List Ent} {T : TypeId} {ad : Option Addr} {n cap : Nat} {l : List Int} (h : Fr w0 w (⟨T, .slice ad n cap, ints l⟩ :: L)) (i : Nat) (hi : i < l.length) :
    ∃ g, ad = some ⟨g, 0, .none⟩ ∧ w0.heap.size ≤ g ∧ w.cell? ⟨g, i, .none⟩ = some (.int .i64 (nth l i)) ∧ w.frozen? ⟨g, i, .none⟩ = false := by
  obtain ⟨g, e, h1, _, h2, h3⟩ := h.open (by rw [ints_len]; omega)
  exact ⟨g, e, h1, by rw [h2 i (by rw [ints_len]; exact hi), ints_get l i hi], h3 i⟩
/-! rows -/
/-- a row of ints: address, capacity, numbers -/
abbrev Rw := Option Addr × Nat × List Int
def rv (p : Rw) : Value := .slice p.1 p.2.2.length p.2.1
def re (p : Rw) : Ent := ⟨3, rv p, ints p.2.2⟩
theorem rv_one (R : List Rw) : ∀ u ∈ R.map rv, u.oneCell' = true := by
  intro u hu
  obtain ⟨p, _, rfl⟩ := List.mem_map.1 hu
  rfl
theorem Fr.mem {w0 w : World} {L : List Ent} (h : Fr w0 w L) {T : TypeId} {ad : Option Addr} {n cap : Nat} {xs : List Value} (he : (⟨T, .slice ad n cap, xs⟩ : Ent) ∈ L) : Sa w ad xs := by
  obtain ⟨i, hi⟩ := List.mem_iff_getElem?.1 he
  exact h.get i hi
theorem Fr.pick {w0 w : World} {L : List Ent} (h : Fr w0 w L) {e : Ent} (he : e ∈ L) : Fr w0 w [e] := h.sub (List.singleton_sublist.2 he)
theorem slsInfo : (Try.prog.info? 32).map (fun i => (i.zero, i.size, i.bytes)) = some (some (.slice .none 0 0), 1, 24) := by kernel_rfl
end Go.Proofs.Ytooghdnlaonkaaa
/- append where the block's number is spelled by the walk. -/
namespace Go.Proofs.Ytooghdnlaonkaaa
open Go.RowKit

theorem wpList_pushInt' {ops : Array Oper} {rest : List Oper} {o : Oper} {a : Act} {Q : Exit → Act → World → Prop} {w0 w : World} (hgd : o.guard = none) (s x : Operand)
    (ho : o.op = .call { callee := .builtin .append, args := #[s, x], argTypes := #[32, 32] })
    (ad : Option Addr) (n cap : Nat) (l : List Int) (y : Int) (L : List Ent) (N : Nat) (hN : w.heap.size = N) (hs : a.eval s = .slice ad n cap) (hF : Fr w0 w (⟨3, .slice ad n cap, ints l⟩ :: L))
    (hx : a.eval x = .slice (some ⟨N, 0, none⟩) 1 1) (hlen : n ≤ 1000000)
    (h : ∀ ad' cap' w', Fr w0 w' (⟨3, .slice ad' (n + 1) cap', ints (l ++ [y])⟩ :: L) → N < w'.heap.size → wpList Try.prog ops Q rest (a.put o.dst (.slice ad' (n + 1) cap')) w') :
    wpList Try.prog ops Q (o :: rest) a (w.alloc (.cells #[.int .i64 y] 3)) := by
  subst hN
  exact wpList_pushInt hgd s x ho ad n cap l y L hs hF hx hlen h
/-- append of one cell of any type -/
theorem wpList_push' {ops : Array Oper} {rest : List Oper} {o : Oper} {a : Act} {Q : Exit → Act → World → Prop} {w0 w : World} (hgd : o.guard = none) (s x : Operand) (S T : TypeId) (z : Value) (bytes : Nat)
    (hS : Try.prog.underlying S = some (.slice T)) (hT : (Try.prog.info? T).map (fun i => (i.zero, i.size, i.bytes)) = some (some z, 1, bytes)) (hz : z.cells.size = 1) (hby : bytes ≤ 1000)
    (ho : o.op = .call { callee := .builtin .append, args := #[s, x], argTypes := #[S, S] })
    (ad : Option Addr) (n cap : Nat) (xs : List Value) (y : Value) (L : List Ent) (N : Nat) (hN : w.heap.size = N) (hs : a.eval s = .slice ad n cap) (hF : Fr w0 w (⟨T, .slice ad n cap, xs⟩ :: L))
    (hx : a.eval x = .slice (some ⟨N, 0, none⟩) 1 1) (hy : y.oneCell' = true) (hlen : n ≤ 1000000)
    (h : ∀ ad' cap' w', Fr w0 w' (⟨T, .slice ad' (n + 1) cap', xs ++ [y]⟩ :: L) → N < w'.heap.size → wpList Try.prog ops Q rest (a.put o.dst (.slice ad' (n + 1) cap')) w') :
    wpList Try.prog ops Q (o :: rest) a (w.alloc (.cells #[y] T)) := by
  subst hN
  exact wpList_push hgd s x S T z bytes hS hT hz hby ho ad n cap xs y L hs hF hx hy hlen h
theorem intElem : Try.prog.elem 32 = 3 := by kernel_rfl
/-- x[k:], of any element of one cell -/
theorem slice_fromT (S T : TypeId) (hS : Try.prog.underlying S = some (.slice T)) (hE : Try.prog.elem S = T) (hT : (Try.prog.info? T).map (fun i => i.size) = some 1)
    (ad : Option Addr) (n cap k : Nat) (hk : k ≤ n) (hc : n ≤ cap) (xs : List Value) (hx : xs.length = n) :
    ∃ ad' cap', (∀ W, Sem.run Try.prog (Instr.slice S (.slice ad n cap) (some (.int .i64 (k : Int))) none none) W = .ok (.slice ad' (n - k) cap') W) ∧ (∀ W, Sa W ad xs → Sa W ad' (xs.drop k)) ∧ n - k ≤ cap' := by
  have ht : Try.prog.underlying S = some (.slice (Try.prog.elem S)) := by rw [hE]; exact hS
  have hsz : ∀ W, Sem.run Try.prog (sizeOf (Try.prog.elem S)) W = .ok 1 W := fun W => by
    rw [hE]
    cases hi : Try.prog.info? T with
    | none => rw [hi] at hT; cases hT
    | some i => rw [hi] at hT; simp at hT; simp [sizeOf, typeInfo, go_sem, hi, hT]
  refine ⟨if cap = k then ad else ad.map (·.add (k * 1)), cap - k, fun W => ?_, fun W hW h0 => ?_, by omega⟩
  · rw [run_slice_l W S ad n cap ht .i64 k (by omega) (by omega), hsz]
    simp [Result.andThen, sliced]
  · rw [List.length_drop] at h0
    rw [if_neg (by omega)]
    obtain ⟨b, off, rfl, _, _⟩ := hW (by omega)
    have := hW.drop k
    have e : (some ⟨b, off, none⟩ : Option Addr).map (·.add (k * 1)) = some ⟨b, off + k, none⟩ := by
      simp only [Option.map_some, Nat.mul_one]; unfold Addr.add; split
      · next h => simp_all
      · rfl
    rw [e]; exact this (by rw [List.length_drop]; exact h0)
/-- x[lo:hi] -/
theorem slice_midT (S T : TypeId) (hS : Try.prog.underlying S = some (.slice T)) (hE : Try.prog.elem S = T) (hT : (Try.prog.info? T).map (fun i => i.size) = some 1)
    (ad : Option Addr) (n cap lo k : Nat) (hk : lo + k ≤ n) (hc : n ≤ cap) (xs : List Value) (hx : xs.length = n) :
    ∃ ad' cap', (∀ W, Sem.run Try.prog (Instr.slice S (.slice ad n cap) (some (.int .i64 (lo : Int))) (some (.int .i64 ((lo : Int) + (k : Int)))) none) W = .ok (.slice ad' k cap') W) ∧ (∀ W, Sa W ad xs → Sa W ad' ((xs.drop lo).take k)) ∧ k ≤ cap' := by
  have ht : Try.prog.underlying S = some (.slice (Try.prog.elem S)) := by rw [hE]; exact hS
  have hsz : ∀ W, Sem.run Try.prog (sizeOf (Try.prog.elem S)) W = .ok 1 W := fun W => by
    rw [hE]
    cases hi : Try.prog.info? T with
    | none => rw [hi] at hT; cases hT
    | some i => rw [hi] at hT; simp at hT; simp [sizeOf, typeInfo, go_sem, hi, hT]
  refine ⟨if cap = lo then ad else ad.map (·.add (lo * 1)), cap - lo, fun W => ?_, fun W hW h0 => ?_, by omega⟩
  · rw [run_slice_lh W S ad n cap ht .i64 .i64 lo ((lo : Int) + (k : Int)) (by omega) (by omega) (by omega), hsz]
    have e1 : ((lo : Int) + (k : Int)).toNat = lo + k := by omega
    simp only [Result.andThen, sliced, e1, Int.toNat_natCast]
    rw [Nat.add_sub_cancel_left]
  · rw [List.length_take, List.length_drop] at h0
    rw [if_neg (by omega)]
    obtain ⟨b, off, rfl, _, _⟩ := hW (by omega)
    have := (hW.drop lo).take k
    have e : (some ⟨b, off, none⟩ : Option Addr).map (·.add (lo * 1)) = some ⟨b, off + lo, none⟩ := by
      simp only [Option.map_some, Nat.mul_one]; unfold Addr.add; split
      · next h => simp_all
      · rfl
    rw [e]; exact this (by rw [List.length_take, List.length_drop]; exact h0)
end Go.Proofs.Ytooghdnlaonkaaa
