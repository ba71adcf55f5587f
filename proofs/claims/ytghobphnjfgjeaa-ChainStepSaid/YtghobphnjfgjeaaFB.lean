/- A block of structs of the call's own, beside its slices. -/
import Derived.Test.YtghobphnjfgjeaaArr4
namespace Go.Proofs.Ytghobphnjfgjeaa
open Go.RowKit

/-- the slice at ad reads as the cells xs, in a block of the call's own that none of L lies in -/
structure FB (w0 w : World) (T : TypeId) (ad : Option Addr) (xs : List Value) (L : List Ent) : Prop where
  fr : Fr w0 w L
  blk : 0 < xs.length → ∃ g cur, ad = some ⟨g, 0, none⟩ ∧ w0.heap.size ≤ g ∧ w.heap[g]? = some (.cells cur T (0, 0)) ∧ cur.toList.take xs.length = xs ∧ ∀ e ∈ L, e.v.ownBlock ≠ some g
theorem cell_of_heap {w : World} {g : Nat} {cur : Array Value} {T : TypeId} (h : w.heap[g]? = some (.cells cur T (0, 0))) (i : Nat) : w.cell? ⟨g, i, none⟩ = cur[i]? := by
  unfold World.cell?
  simp [h]
theorem FB.sa {w0 w : World} {T : TypeId} {ad : Option Addr} {xs : List Value} {L : List Ent} (h : FB w0 w T ad xs L) : Sa w ad xs := by
  intro h0
  obtain ⟨g, cur, e, h1, h2, h3, _⟩ := h.blk h0
  refine ⟨g, 0, e, (Array.getElem?_eq_some_iff.1 h2).1, fun i hi => ?_⟩
  rw [Nat.zero_add, cell_of_heap h2]
  conv => rhs; rw [← h3]
  rw [List.getElem?_take_of_lt hi, Array.getElem?_toList]
theorem FB.keep {w0 w w' : World} {T : TypeId} {ad : Option Addr} {xs : List Value} {L : List Ent} (h : FB w0 w T ad xs L) (b : Below w.heap.size w w') : FB w0 w' T ad xs L := by
  refine ⟨h.fr.keep b, fun h0 => ?_⟩
  obtain ⟨g, cur, e, h1, h2, h3, h4⟩ := h.blk h0
  exact ⟨g, cur, e, h1, by rw [b.block g (Array.getElem?_eq_some_iff.1 h2).1]; exact h2, h3, h4⟩
theorem FB.alloc {w0 w : World} {T : TypeId} {ad : Option Addr} {xs : List Value} {L : List Ent} (h : FB w0 w T ad xs L) (o : Obj) : FB w0 (w.alloc o) T ad xs L := h.keep (kin_alloc (Below.refl _ _) o)
theorem FB.drew {w0 w : World} {T : TypeId} {ad : Option Addr} {xs : List Value} {L : List Ent} (h : FB w0 w T ad xs L) : FB w0 w.drew T ad xs L := h.keep (Below.refl _ _).drew
theorem FB.drewN {w0 w : World} {T : TypeId} {ad : Option Addr} {xs : List Value} {L : List Ent} (h : FB w0 w T ad xs L) (n : Nat) : FB w0 (w.drewN n) T ad xs L := h.keep ⟨rfl, rfl, rfl, Nat.le_refl _, fun _ _ => rfl⟩
theorem FB.bel {w0 w : World} {T : TypeId} {ad : Option Addr} {xs : List Value} {L : List Ent} (h : FB w0 w T ad xs L) : Below w0.heap.size w0 w := h.fr.bel
/-- one cell of it -/
theorem FB.open {w0 w : World} {T : TypeId} {ad : Option Addr} {xs : List Value} {L : List Ent} (h : FB w0 w T ad xs L) (h0 : 0 < xs.length) :
    ∃ g, ad = some ⟨g, 0, none⟩ ∧ w0.heap.size ≤ g ∧ g < w.heap.size ∧ (∀ i, i < xs.length → w.cell? ⟨g, i, none⟩ = xs[i]?) ∧ ∀ i, w.frozen? ⟨g, i, none⟩ = false := by
  obtain ⟨g, cur, e, h1, h2, h3, _⟩ := h.blk h0
  refine ⟨g, e, h1, (Array.getElem?_eq_some_iff.1 h2).1, fun i hi => ?_, fun i => ?_⟩
  · rw [cell_of_heap h2]
    conv => rhs; rw [← h3]
    rw [List.getElem?_take_of_lt hi, Array.getElem?_toList]
  · unfold World.frozen?
    simp [h2]
/-- a store into it -/
theorem FB.set {w0 w : World} {T : TypeId} {g : Nat} {xs : List Value} {L : List Ent} (h : FB w0 w T (some ⟨g, 0, none⟩) xs L) (h0 : 0 < xs.length) (i : Nat) (v : Value) :
    FB w0 (w.setCell ⟨g, i, none⟩ v) T (some ⟨g, 0, none⟩) (xs.set i v) L := by
  obtain ⟨g', cur, e, h1, h2, h3, h4⟩ := h.blk h0
  cases e
  have hgr : w.grownBy (w.setCell ⟨g, i, none⟩ v) (some g) := ⟨rfl, rfl, rfl, by simp, fun k _ hk => heap_setCell_other w ⟨g, i, none⟩ k v (fun e => hk (by rw [e]))⟩
  refine ⟨⟨h.fr.bel.setCell h1 v, ⟨fun e he => World.ownsRow.kept (h.fr.os.own e he) hgr (.inr (h4 e he)), h.fr.os.far⟩⟩, fun _ => ?_⟩
  refine ⟨g, cur.setIfInBounds i v, rfl, h1, heap_setCell_same w g i cur T v h2, ?_, h4⟩
  rw [Array.toList_setIfInBounds, List.length_set, List.take_set, h3]
/-- append of one number to the first of the slices -/
theorem wpList_pushFB {ops : Array Oper} {rest : List Oper} {o : Oper} {a : Act} {Q : Exit → Act → World → Prop} {w0 w : World} (hgd : o.guard = none) (s x : Operand)
    (ho : o.op = .call { callee := .builtin .append, args := #[s, x], argTypes := #[35, 35] })
    (BT : TypeId) (bd : Option Addr) (bx : List Value) (ad : Option Addr) (n cap : Nat) (l : List Int) (y : Int) (L : List Ent) (hs : a.eval s = .slice ad n cap) (hF : FB w0 w BT bd bx (⟨3, .slice ad n cap, ints l⟩ :: L))
    (N : Nat) (hN : w.heap.size = N) (hx : a.eval x = .slice (some ⟨N, 0, none⟩) 1 1) (hlen : n ≤ 1000000)
    (h : ∀ ad' cap' w', FB w0 w' BT bd bx (⟨3, .slice ad' (n + 1) cap', ints (l ++ [y])⟩ :: L) → N < w'.heap.size → wpList Try.prog ops Q rest (a.put o.dst (.slice ad' (n + 1) cap')) w') :
    wpList Try.prog ops Q (o :: rest) a (w.alloc (.cells #[.int .i64 y] 3)) := by
  subst hN
  obtain ⟨i0, hi, hz0, hz1, hz2⟩ := info_parts intInfo
  have hn := hF.fr.len
  have hO := hF.fr.os.own _ List.mem_cons_self
  have hb0 := hF.bel.size
  subst hn
  refine wpList_append_own_at _ hgd s x 35 ho w0.heap.size 3 i0 (.int .i64 0) 1 8 Try.underlying35 hi hz0 hz1 hz2 rfl (by decide) (.slice ad (ints l).length cap) (ints l).length (ints l) hs (World.ownsRow.alloc hO _)
    ⟨w.heap.size, 0, none⟩ 1 1 [.int .i64 y] hx rfl (cell_one_new _ _ _) ?_ ?_ ?_ ?_ ?_
  · intro u hu; simp at hu; subst hu; rfl
  · unfold maxLen; omega
  · omega
  · simp; omega
  · intro v' w' h1 h2 hnil hat
    have hsz := h2.size
    have hsz0 : (w.alloc (.cells #[.int .i64 y] 3)).heap.size = w.heap.size + 1 := by simp
    rw [ints_snoc] at h1
    obtain ⟨ad', cap', rfl⟩ : ∃ ad' cap', v' = .slice ad' ((ints l).length + 1) cap' := by
      rcases h1.2 with ⟨e1, e2⟩ | ⟨g, cap', cur, e1, _⟩
      · omega
      · exact ⟨_, _, e1⟩
    refine h ad' cap' w' ⟨⟨?_, ⟨fun e he => ?_, ?_⟩⟩, fun h0 => ?_⟩ (by omega)
    · refine Below.grown (row := (Value.slice ad (ints l).length cap).ownBlock) (hF.alloc _).bel h2 (by omega) ?_
      intro k hk
      exact (Ent.own.lt hO k hk).1
    · rcases List.mem_cons.1 he with rfl | he
      · unfold Ent.own
        rw [show ((⟨3, Value.slice ad' ((ints l).length + 1) cap', ints (l ++ [y])⟩ : Ent).xs.length) = (ints l).length + 1 by simp [ints]]
        exact h1
      · refine World.ownsRow.kept ((hF.fr.alloc _).os.own e (List.mem_cons_of_mem _ he)) h2 ?_
        exact ((List.pairwise_cons.1 hF.fr.os.far).1 e he).symm
    · have hf := List.pairwise_cons.1 hF.fr.os.far
      refine List.pairwise_cons.2 ⟨fun b hb => ?_, hf.2⟩
      have hbf := hf.1 b hb
      have hlt := Ent.own.lt (hF.fr.os.own b (List.mem_cons_of_mem _ hb))
      rcases hat with hat | hat
      · rcases hbf with hbf | hbf
        · exact .inl (show (Value.slice ad' ((ints l).length + 1) cap').ownBlock = none by rw [hat]; exact hbf)
        · exact .inr (show (Value.slice ad' ((ints l).length + 1) cap').ownBlock ≠ _ by rw [hat]; exact hbf)
      · refine .inr (show (Value.slice ad' ((ints l).length + 1) cap').ownBlock ≠ _ from ?_)
        rw [hat]
        intro e
        have := (hlt _ e.symm).2
        omega
    · obtain ⟨g, cur, e, k1, k2, k3, k4⟩ := (hF.alloc (.cells #[.int .i64 y] 3)).blk h0
      have hg : g < w.heap.size := by
        obtain ⟨g', cur', e', _, k2', _⟩ := hF.blk h0
        rw [e] at e'; cases e'
        exact (Array.getElem?_eq_some_iff.1 k2').1
      refine ⟨g, cur, e, k1, ?_, k3, fun u hu => ?_⟩
      · rw [h2.block g (by omega) (fun e => k4 _ List.mem_cons_self e.symm)]; exact k2
      · rcases List.mem_cons.1 hu with rfl | hu
        · intro e'
          have e' : (Value.slice ad' ((ints l).length + 1) cap').ownBlock = some g := e'
          rcases hat with hat | hat
          · exact k4 _ List.mem_cons_self (by rw [← e', hat])
          · rw [hat] at e'; cases e'; omega
        · exact k4 u (List.mem_cons_of_mem _ hu)
/-- append of one struct of five cells (or of any other number) to a slice of the call's own, its only one -/
theorem wpList_pushStr {ops : Array Oper} {rest : List Oper} {o : Oper} {a : Act} {Q : Exit → Act → World → Prop} {w0 w : World} (hgd : o.guard = none) (s x : Operand) (S T : TypeId) (z : Value) (c bytes : Nat)
    (hS : Try.prog.underlying S = some (.slice T)) (hT : (Try.prog.info? T).map (fun i => (i.zero, i.size, i.bytes)) = some (some z, c, bytes)) (hz : z.cells.size = c) (hc : 0 < c) (hby : bytes ≤ 1000)
    (ho : o.op = .call { callee := .builtin .append, args := #[s, x], argTypes := #[S, S] })
    (v : Value) (n : Nat) (xs ys : List Value) (hs : a.eval s = v) (hO : w.ownsRow w0.heap.size T c v n xs) (hb : Below w0.heap.size w0 w)
    (N : Nat) (hN : w.heap.size = N) (hx : a.eval x = .slice (some ⟨N, 0, none⟩) 1 1) (hy : ys.length = c) (h1 : ∀ u ∈ ys, u.oneCell' = true) (hlen : n ≤ 1000000)
    (h : ∀ v' w', w'.ownsRow w0.heap.size T c v' (n + 1) (xs ++ ys) → Below w0.heap.size w0 w' → N < w'.heap.size → wpList Try.prog ops Q rest (a.put o.dst v') w') :
    wpList Try.prog ops Q (o :: rest) a (w.alloc (.cells ys.toArray T)) := by
  subst hN
  obtain ⟨i0, hi, hz0, hz1, hz2⟩ := info_parts hT
  have hb0 := hb.size
  refine wpList_append_own_at _ hgd s x S ho w0.heap.size T i0 z c bytes hS hi hz0 hz1 hz2 hz hc v n xs hs (World.ownsRow.alloc hO _)
    ⟨w.heap.size, 0, none⟩ 1 1 ys hx (by rw [hy, Nat.one_mul]) ?_ h1 ?_ ?_ ?_ ?_
  · intro j u hj
    have := cell_new w ys.toArray T j
    rw [Nat.zero_add] at this
    rw [show ((⟨w.heap.size, 0, none⟩ : Addr).add j) = ⟨w.heap.size, j, none⟩ from by unfold Addr.add; split <;> simp_all, this]
    simpa using hj
  · unfold maxLen; omega
  · calc (n + 1) * bytes ≤ 1000001 * 1000 := Nat.mul_le_mul (by omega) hby
      _ ≤ _ := by omega
  · simp; omega
  · intro v' w' h2 h3 _ _
    have hsz := h3.size
    have hsz0 : (w.alloc (.cells ys.toArray T)).heap.size = w.heap.size + 1 := by simp
    refine h v' w' h2 ?_ (by omega)
    refine Below.grown (row := v.ownBlock) (hb.alloc hb0 _) h3 (by omega) ?_
    intro k hk
    exact (World.ownsRow.lt hO k hk).1
theorem FB.of {w0 w : World} {T : TypeId} {c : Nat} {v : Value} {n : Nat} {xs : List Value} (hO : w.ownsRow w0.heap.size T c v n xs) (hb : Below w0.heap.size w0 w) : ∃ ad cap, v = .slice ad n cap ∧ n ≤ cap ∧ FB w0 w T ad xs [] := by
  obtain ⟨hl, h2⟩ := hO
  rcases h2 with ⟨rfl, rfl⟩ | ⟨g, cap, cur, rfl, h3, h4, h5, _, _, h8⟩
  · exact ⟨none, 0, rfl, Nat.le_refl _, ⟨hb, Oss.nil _ _⟩, fun h0 => by omega⟩
  · exact ⟨_, cap, rfl, h5, ⟨hb, Oss.nil _ _⟩, fun _ => ⟨g, cur, rfl, h3, h4, by rw [hl]; exact h8, by simp⟩⟩
end Go.Proofs.Ytghobphnjfgjeaa
