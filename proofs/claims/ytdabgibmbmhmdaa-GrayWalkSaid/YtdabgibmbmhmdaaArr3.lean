/- append of a whole slice; rows of slices. -/
import Derived.Test.YtdabgibmbmhmdaaArr2
import Derived.Laws.AppendOwnNone
namespace Go.Proofs.Ytdabgibmbmhmdaa
open Go.RowKit

theorem Fr.none {w0 w : World} {L : List Ent} {T : TypeId} {ad : Option Addr} {n cap : Nat} {xs : List Value} (h : Fr w0 w (⟨T, .slice ad n cap, xs⟩ :: L)) (e : ad = .none) : n = 0 ∧ cap = 0 := by
  rcases (h.os.own _ List.mem_cons_self).elim with ⟨rfl, ⟨rfl, rfl, rfl⟩ | ⟨g, cur, rfl, h2, h3, h4, h5, h6, h7⟩⟩
  · exact ⟨rfl, rfl⟩
  · cases e
/-- append of the cells of another slice to the first of them -/
theorem wpList_pushAll {ops : Array Oper} {rest : List Oper} {o : Oper} {a : Act} {Q : Exit → Act → World → Prop} {w0 w : World} (hgd : o.guard = .none) (s x : Operand) (S T : TypeId) (z : Value) (bytes : Nat)
    (hS : Try.prog.underlying S = some (.slice T)) (hT : (Try.prog.info? T).map (fun i => (i.zero, i.size, i.bytes)) = some (some z, 1, bytes)) (hz : z.cells.size = 1) (hby : bytes ≤ 1000)
    (ho : o.op = .call { callee := .builtin .append, args := #[s, x], argTypes := #[S, S] })
    (ad sp : Option Addr) (n cap m c : Nat) (xs ys : List Value) (L : List Ent) (hs : a.eval s = .slice ad n cap) (hF : Fr w0 w (⟨T, .slice ad n cap, xs⟩ :: L))
    (hx : a.eval x = .slice sp m c) (hY : Sa w sp ys) (hm : ys.length = m) (hnone : sp = .none → c = 0 ∧ m = 0) (h1 : ∀ u ∈ ys, u.oneCell' = true) (hlen : n + m ≤ 1000000)
    (h : ∀ ad' cap' w', Fr w0 w' (⟨T, .slice ad' (n + m) cap', xs ++ ys⟩ :: L) → w.heap.size ≤ w'.heap.size → wpList Try.prog ops Q rest (a.put o.dst (.slice ad' (n + m) cap')) w') :
    wpList Try.prog ops Q (o :: rest) a w := by
  obtain ⟨i0, hi, hz0, hz1, hz2⟩ := info_parts hT
  have hn := hF.len
  have hO := hF.os.own _ List.mem_cons_self
  cases sp with
  | none =>
    obtain ⟨rfl, rfl⟩ := hnone rfl
    obtain rfl := List.eq_nil_of_length_eq_zero hm
    subst hn
    refine wpList_append_own_none hgd s x S ho w0.heap.size T i0 1 hS hi (.slice ad xs.length cap) xs.length xs hs (by rw [← hz1]; exact hz1 ▸ hO) hx ?_
    exact h ad cap w (by simpa using hF) (Nat.le_refl _)
  | some sad =>
    subst hn
    refine wpList_append_own_at _ hgd s x S ho w0.heap.size T i0 z 1 bytes hS hi hz0 hz1 hz2 hz (by decide) (.slice ad xs.length cap) xs.length xs hs hO
      sad m c ys hx (by omega) ?_ h1 ?_ ?_ ?_ ?_
    · intro j u hj
      have hjl : j < ys.length := (List.getElem?_eq_some_iff.1 hj).1
      obtain ⟨b, off, e, _, hc⟩ := hY.at j hjl
      cases e
      rw [show ((⟨b, off, .none⟩ : Addr).add j) = ⟨b, off + j, .none⟩ from by unfold Addr.add; split <;> simp_all, hc, hj]
    · unfold maxLen; omega
    · calc (xs.length + m) * bytes ≤ 1000001 * 1000 := Nat.mul_le_mul (by omega) hby
        _ ≤ _ := by omega
    · exact hF.bel.size
    · intro v' w' k1 k2 hnil hat
      have hsz := k2.size
      have hb0 := hF.bel.size
      have e1 : (xs ++ ys).length = xs.length + m := by rw [List.length_append, hm]
      obtain ⟨ad', cap', rfl⟩ : ∃ ad' cap', v' = .slice ad' (xs.length + m) cap' := by
        rcases k1.2 with ⟨e1, e2⟩ | ⟨g, cap', cur, e1, _⟩
        · exact ⟨.none, 0, by rw [e2, e1]⟩
        · exact ⟨_, _, e1⟩
      refine h ad' cap' w' ⟨?_, ⟨fun e he => ?_, ?_⟩⟩ (by omega)
      · refine Below.grown (row := (Value.slice ad xs.length cap).ownBlock) hF.bel k2 (by omega) ?_
        intro k hk
        exact (Ent.own.lt hO k hk).1
      · rcases List.mem_cons.1 he with rfl | he
        · unfold Ent.own; simp only [e1]; exact k1
        · refine World.ownsRow.kept (hF.os.own e (List.mem_cons_of_mem _ he)) k2 ?_
          exact ((List.pairwise_cons.1 hF.os.far).1 e he).symm
      · have hf := List.pairwise_cons.1 hF.os.far
        refine List.pairwise_cons.2 ⟨fun b hb => ?_, hf.2⟩
        have hbf := hf.1 b hb
        have hlt := Ent.own.lt (hF.os.own b (List.mem_cons_of_mem _ hb))
        rcases hat with hat | hat
        · rcases hbf with hbf | hbf
          · exact .inl (show (Value.slice ad' (xs.length + m) cap').ownBlock = .none by rw [hat]; exact hbf)
          · exact .inr (show (Value.slice ad' (xs.length + m) cap').ownBlock ≠ _ by rw [hat]; exact hbf)
        · refine .inr (show (Value.slice ad' (xs.length + m) cap').ownBlock ≠ _ from ?_)
          rw [hat]
          intro e
          have := (hlt _ e.symm).2
          omega

/-- a copy of a slice of ints: append([]int{}, l...) -/
theorem wpList_copyOf {ops : Array Oper} {rest : List Oper} {o : Oper} {a : Act} {Q : Exit → Act → World → Prop} {w0 w : World} (hgd : o.guard = .none) (s x : Operand)
    (ho : o.op = .call { callee := .builtin .append, args := #[s, x], argTypes := #[22, 22] })
    (ad0 sp : Option Addr) (n c : Nat) (l : List Int) (L : List Ent) (hs : a.eval s = .slice ad0 0 0) (hF : Fr w0 w (⟨3, .slice ad0 0 0, ints []⟩ :: L))
    (hx : a.eval x = .slice sp n c) (hY : Sa w sp (ints l)) (hm : (ints l).length = n) (hnone : sp = .none → c = 0 ∧ n = 0) (hlen : n ≤ 1000000)
    (h : ∀ ad' cap' w', Fr w0 w' (⟨3, .slice ad' n cap', ints l⟩ :: L) → w.heap.size ≤ w'.heap.size → wpList Try.prog ops Q rest (a.put o.dst (.slice ad' n cap')) w') :
    wpList Try.prog ops Q (o :: rest) a w := by
  refine wpList_pushAll hgd s x 22 3 (.int .i64 0) 8 Try.underlying22 intInfo rfl (by omega) ho ad0 sp 0 0 n c (ints []) (ints l) L hs hF hx hY hm hnone (ints_oneCell .i64 l) (by omega) ?_
  intro ad' cap' w' h1 h2
  rw [Nat.zero_add] at h1 ⊢
  exact h ad' cap' w' h1 h2
/-- one number of the first of them -/
theorem Fr.openI {w0 w : World} {L : List Ent} {T : TypeId} {ad : Option Addr} {n cap : Nat} {l : List Int} (h : Fr w0 w (⟨T, .slice ad n cap, ints l⟩ :: L)) (i : Nat) (hi : i < l.length) :
    ∃ g, ad = some ⟨g, 0, .none⟩ ∧ w0.heap.size ≤ g ∧ w.cell? ⟨g, i, .none⟩ = some (.int .i64 (nth l i)) ∧ w.frozen? ⟨g, i, .none⟩ = false := by
  obtain ⟨g, e, h1, _, h2, h3⟩ := h.open (by rw [ints_len]; omega)
  exact ⟨g, e, h1, by rw [h2 i (by rw [ints_len]; exact hi), ints_get l i hi], h3 i⟩
/-! rows -/
/-- a row of ints: address, capacity, numbers -/
abbrev Rw := Option Addr × Nat × List Int
def rv (p : Rw) : Value := .slice p.1 p.2.2.length p.2.1
def re (p : Rw) : Ent := ⟨3, rv p, ints p.2.2⟩
theorem rv_one (R : List Rw) : ∀ u ∈ R.map rv, u.oneCell' = true := by
  intro u hu
  obtain ⟨p, _, rfl⟩ := List.mem_map.1 hu
  rfl
theorem Fr.mem {w0 w : World} {L : List Ent} (h : Fr w0 w L) {T : TypeId} {ad : Option Addr} {n cap : Nat} {xs : List Value} (he : (⟨T, .slice ad n cap, xs⟩ : Ent) ∈ L) : Sa w ad xs := by
  obtain ⟨i, hi⟩ := List.mem_iff_getElem?.1 he
  exact h.get i hi
theorem Fr.pick {w0 w : World} {L : List Ent} (h : Fr w0 w L) {e : Ent} (he : e ∈ L) : Fr w0 w [e] := h.sub (List.singleton_sublist.2 he)
theorem slsInfo : (Try.prog.info? 22).map (fun i => (i.zero, i.size, i.bytes)) = some (some (.slice .none 0 0), 1, 24) := by kernel_rfl
end Go.Proofs.Ytdabgibmbmhmdaa
