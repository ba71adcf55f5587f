/- Several of my texts in one: PushG, MapD. -/
import Derived.Test.YtbolgfiafbhicaaDoorDF09
import Derived.Test.YtbolgfiafbhicaaDoorDF19
import Derived.Deep.AppendLies
import Derived.Test.YtbolgfiafbhicaaDoorDF08
import Derived.Maps.OwnOps
import Derived.Maps.Views
import Derived.StringKeys
/- Append of one element of any number of cells in a region that draws. -/
namespace Go.Proofs.YtbolgfiafbhicaaDoor
open Go.RowKit

theorem step_pushG {ops : Array Oper} {o : Oper} {a : Act} {K : Act → World → Prop} {Q : Exit → Act → World → Prop} {E : Prop} {w0 w : World} (hgd : o.guard = .none) (s x : Operand) (S T : TypeId) (z : Value) (c bytes : Nat)
    (hS : Tryd.prog.underlying S = some (.slice T)) (hT : (Tryd.prog.info? T).map (fun i => (i.zero, i.size, i.bytes)) = some (some z, c, bytes)) (hz : z.cells.size = c) (hc : 0 < c) (hby : 0 < bytes)
    (ho : o.op = .call { callee := .builtin .append, args := #[s, x], argTypes := #[S, S] })
    (ad : Option Addr) (n cap b : Nat) (xs ys : List Value) (B : List Big) (hs : a.eval s = .slice ad n cap) (hF : Fg w0 w (⟨T, c, n, .slice ad n cap, xs⟩ :: B))
    (hx : a.eval x = .slice (some ⟨b, 0, .none⟩) 1 1) (hC : ∀ (j : Nat) (u : Value), ys[j]? = some u → w.cell? ⟨b, j, .none⟩ = some u) (hy : ys.length = c) (h1 : ∀ u ∈ ys, u.oneCell' = true) (hlen : (n + 1) * bytes ≤ 140737488355328)
    (h : ∀ ad' cap' w', Fg w0 w' (⟨T, c, n + 1, .slice ad' (n + 1) cap', xs ++ ys⟩ :: B) → w.heap.size ≤ w'.heap.size → K (a.put o.dst (.slice ad' (n + 1) cap')) w') :
    if Region.wanted o (yielded ops a.tmps) = true then Oper.wp Tryd.prog o a w K Q else E := by
  obtain ⟨i0, hi, hz0, hz1, hz2⟩ := info_parts hT
  have hO : w.ownsRow w0.heap.size T c (.slice ad n cap) n xs := hF.own _ List.mem_cons_self
  refine step_append_lies w hgd s x S ho w0.heap.size T i0 z c bytes hS hi hz0 hz1 hz2 hz hc (.slice ad n cap) n xs hs hO
    ⟨b, 0, .none⟩ 1 1 ys hx (by rw [hy, Nat.one_mul]) ?_ h1 (by decide) ?_ hlen hF.bel.size w.heap.size rfl ?_
  · intro j u hj
    rw [show ((⟨b, 0, .none⟩ : Addr).add j) = ⟨b, j, .none⟩ from by unfold Addr.add; split <;> simp_all]
    exact hC j u hj
  · have : n + 1 ≤ (n + 1) * bytes := Nat.le_mul_of_pos_right _ hby
    unfold maxLen; omega
  · intro g cap' w' h2 h3 hat hg
    have hsz := h3.size
    have hb0 := hF.bel.size
    have hf := List.pairwise_cons.1 hF.far
    refine h (some ⟨g, 0, .none⟩) cap' w' ⟨?_, fun e he => ?_, List.pairwise_cons.2 ⟨fun e hb => ?_, hf.2⟩⟩ (by omega)
    · refine Below.grown (row := (Value.slice ad n cap).ownBlock) hF.bel h3 (by omega) ?_
      intro k hk
      exact (World.ownsRow.lt hO k hk).1
    · rcases List.mem_cons.1 he with rfl | he
      · exact h2
      · exact Big.kept (hF.own e (List.mem_cons_of_mem _ he)) h3 (hf.1 e he).symm (ownsRow_notMap hO)
    · have hbf := hf.1 e hb
      have hlt := Big.lt (hF.own e (List.mem_cons_of_mem _ hb))
      rcases hat with hat | hat
      · rcases hbf with hbf | hbf
        · rw [show (⟨T, c, n, Value.slice ad n cap, xs⟩ : Big).v.ownBlock = some g from hat] at hbf; cases hbf
        · exact .inr (show (Value.slice (some ⟨g, 0, .none⟩) (n + 1) cap').ownBlock ≠ _ by rw [show (Value.slice (some ⟨g, 0, .none⟩) (n + 1) cap').ownBlock = some g from rfl, ← hat]; exact hbf)
      · refine .inr (show (Value.slice (some ⟨g, 0, .none⟩) (n + 1) cap').ownBlock ≠ _ from ?_)
        rw [show (Value.slice (some ⟨g, 0, .none⟩) (n + 1) cap').ownBlock = some g from rfl, hat]
        intro e
        have := (hlt _ e.symm).2
        omega
end Go.Proofs.YtbolgfiafbhicaaDoor
/- Maps from names to numbers that a call makes for itself: literals and look-ups. -/
namespace Go.Proofs.YtbolgfiafbhicaaDoor
open Go.RowKit Go.Maps

def updD (f : ByteArray → Int) (x : ByteArray) (v : Int) : ByteArray → Int := fun y => if y = x then v else f y
theorem lawD : Keyed Tryd.prog 9 := string_keyed Tryd.underlying9
theorem zeroD (w : World) : (zeroValue 3).run Tryd.prog w = .ok (.int .i64 0) w := by kernel_rfl
def kyD (s : ByteArray) : Lit := .string s.data.toList
def dD (c : Int) : DataW Unit := .lit (.int .i64 c)
theorem kyD_inj {s t : ByteArray} (h : kyD s = kyD t) : s = t := by
  unfold kyD at h
  simp only [Lit.string.injEq] at h
  obtain ⟨a⟩ := s; obtain ⟨b⟩ := t
  simp only at h
  rw [Array.toList_inj.1 h]
structure OwnD (B n : Nat) (D : DataW Unit) (mp : ByteArray → Int) (w : World) : Prop where
  map : IsMap D
  at_ : ∀ s : ByteArray, D.atKey (kyD s) (dD 0) = dD (mp s)
  own : w.ownsMap Tryd.prog 9 (plainElem (H := Unit) Tryd.prog 3) B n D
theorem kyD_of {s : ByteArray} (h : s.size ≤ maxLen) : keyOf Tryd.prog 9 (.string s) = some (kyD s) := Go.WideMaps.keyOf_string_mk Tryd.underlying9 h
theorem OwnD.look {B n : Nat} {D : DataW Unit} {mp : ByteArray → Int} {w : World} (h : OwnD B n D mp w) {s : ByteArray} (hs : s.size ≤ maxLen) :
    (Instr.lookup 66 (.map (some B)) (.string s) false).run Tryd.prog w = .ok (.int .i64 (mp s)) w := by
  obtain ⟨c, hrun, hat, -⟩ := World.ownsMap.lookup_int h.own lawD Tryd.underlying66 Tryd.underlying3 (zeroD w) (kyD_of hs)
  have h2 := h.at_ s
  rw [show (dD 0 : DataW Unit) = .lit (.int .i64 0) from rfl, hat] at h2
  unfold dD at h2
  simp only [DataW.lit.injEq, Lit.int.injEq, true_and] at h2
  rw [h2] at hrun
  exact hrun
theorem OwnD.keep {B n : Nat} {D : DataW Unit} {mp : ByteArray → Int} {w w' : World} (h : OwnD B n D mp w) (e : w'.heap[B]? = w.heap[B]?) : OwnD B n D mp w' := by
  obtain ⟨h1, h2, es, clock, hb, rest⟩ := h
  exact ⟨h1, h2, es, clock, e.trans hb, rest⟩
theorem OwnD.lt {B n : Nat} {D : DataW Unit} {mp : ByteArray → Int} {w : World} (h : OwnD B n D mp w) : B < w.heap.size := h.own.lt
theorem OwnD.put {B n : Nat} {D : DataW Unit} {mp : ByteArray → Int} {w w' : World} (h : OwnD B n D mp w) (x : ByteArray) (v : Int) (h' : w'.ownsMap Tryd.prog 9 (plainElem (H := Unit) Tryd.prog 3) B (n + 1) (D.put (kyD x) (dD v))) : OwnD B (n + 1) (D.put (kyD x) (dD v)) (updD mp x v) w' := by
  refine ⟨h.map.put _ _, fun s => ?_, h'⟩
  unfold updD
  by_cases e : s = x
  · rw [if_pos e, e]
    exact atKey_put_same h.map (show WideAt.IsKeyLit (kyD x) from trivial) _ _
  · rw [if_neg e, atKey_put_other (fun h => e (kyD_inj h)), h.at_ s]
theorem OwnD.start (w : World) : OwnD w.heap.size 0 (.map []) (fun _ => 0) (w.alloc (.map #[] 0)) :=
  ⟨isMap_empty, fun s => WideAt.atKey_none _ (fun p hp => by cases hp), World.ownsMap_made w Tryd.prog 9 _⟩
/-- maps of the call's own, at blocks apart; nothing old has turned -/
structure Mps (w0 w : World) (L : List (Nat × (ByteArray → Int))) (k : Nat) : Prop where
  bel : Below w0.heap.size w0 w
  own : ∀ p ∈ L, w0.heap.size ≤ p.1 ∧ ∃ n D, n ≤ k ∧ OwnD p.1 n D p.2 w
  far : L.Pairwise fun p q => p.1 ≠ q.1
theorem Mps.start (w : World) : Mps w w [] 0 := ⟨Below.refl _ _, (fun p hp => by cases hp), .nil⟩
theorem Mps.make {w0 w : World} {L : List (Nat × (ByteArray → Int))} {k : Nat} (h : Mps w0 w L k) {N : Nat} (hN : w.heap.size = N) : Mps w0 (w.alloc (.map #[] 0)) ((N, fun _ => 0) :: L) k := by
  subst hN
  refine ⟨kin_alloc h.bel _, fun p hp => ?_, List.pairwise_cons.2 ⟨fun q hq => ?_, h.far⟩⟩
  · rcases List.mem_cons.1 hp with rfl | hp
    · exact ⟨h.bel.size, 0, _, Nat.zero_le _, OwnD.start w⟩
    · obtain ⟨h1, n, D, h2, h3⟩ := h.own p hp
      refine ⟨h1, n, D, h2, h3.keep ?_⟩
      exact (kin_alloc (Below.refl w.heap.size w) (.map #[] 0)).block p.1 h3.lt
  · obtain ⟨h1, n, D, h2, h3⟩ := h.own q hq
    have := h3.lt
    simp only
    omega
theorem Mps.swap {w0 w : World} {a b : Nat × (ByteArray → Int)} {L : List (Nat × (ByteArray → Int))} {k : Nat} (h : Mps w0 w (a :: b :: L) k) : Mps w0 w (b :: a :: L) k :=
  ⟨h.bel, fun p hp => h.own p (by simp only [List.mem_cons] at hp ⊢; rcases hp with h | h | h <;> simp [h]), (List.Perm.swap b a L).pairwise_iff (fun h e => h e.symm) |>.1 h.far⟩
/-- an entry of the first map's literal -/
theorem insD {w0 w : World} {ops : Array Oper} {rest : List Oper} {o : Oper} {a : Act} {Q : Exit → Act → World → Prop} (hg : o.guard = none) (m x v : Operand) (key : ByteArray) (c : Int)
    (hop : o.op = Op.insert 66 m x v) (hx : a.eval x = .string key) (hv : a.eval v = .int .i64 c) (b : Nat) (mp : ByteArray → Int) (L : List (Nat × (ByteArray → Int))) (k : Nat) (h : Mps w0 w ((b, mp) :: L) k) (hm : a.eval m = .map (some b)) (hk : k ≤ 1000) (hks : key.size ≤ 1000) (hc : -9223372036854775808 ≤ c ∧ c ≤ 9223372036854775807)
    (hK : ∀ w', Mps w0 w' ((b, updD mp key c) :: L) (k + 1) → wpList Tryd.prog ops Q rest (a.put o.dst undef) w') :
    wpList Tryd.prog ops Q (o :: rest) a w := by
  obtain ⟨hb, n, D, hn, ho⟩ := h.own _ List.mem_cons_self
  refine wpList_plain hg fun K' hK' => ?_
  obtain ⟨w', hrun, r1, r2⟩ := ho.own.update lawD Tryd.underlying66 (by unfold maxLen; omega) (kyD_of (s := key) (by unfold maxLen; omega)) (plainElem_int (H := Unit) Tryd.underlying3 (WalkArith.wf_i64 hc))
  unfold Oper.wp
  simp [execOp, hop, hm, hx, hv, hrun, Result.andThen]
  refine hK' _ _ (hK w' ⟨Below.grown (row := some b) h.bel r2 h.bel.size (fun q hq => by cases hq; exact hb), fun p hp => ?_, ?_⟩)
  · rcases List.mem_cons.1 hp with rfl | hp
    · exact ⟨hb, n + 1, _, by omega, ho.put key c r1⟩
    · obtain ⟨h1, n', D', h2, h3⟩ := h.own p (List.mem_cons_of_mem _ hp)
      refine ⟨h1, n', D', by omega, h3.keep ?_⟩
      have hne := (List.pairwise_cons.1 h.far).1 p hp
      exact r2.block p.1 h3.lt (fun e => by simp only at hne; cases e; exact hne rfl)
  · have := List.pairwise_cons.1 h.far
    exact List.pairwise_cons.2 ⟨fun q hq => this.1 q hq, this.2⟩
theorem Mps.look {w0 w : World} {L : List (Nat × (ByteArray → Int))} {k : Nat} (h : Mps w0 w L k) {b : Nat} {mp : ByteArray → Int} (hb : (b, mp) ∈ L) {s : ByteArray} (hs : s.size ≤ maxLen) :
    (Instr.lookup 66 (.map (some b)) (.string s) false).run Tryd.prog w = .ok (.int .i64 (mp s)) w := by
  obtain ⟨-, n, D, -, ho⟩ := h.own _ hb
  exact ho.look hs
end Go.Proofs.YtbolgfiafbhicaaDoor
