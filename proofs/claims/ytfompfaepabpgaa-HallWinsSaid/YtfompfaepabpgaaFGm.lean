/- A map of the call's own beside slices: what a call leaves alone. Maps from names to numbers. -/
import Derived.Test.YtfompfaepabpgaaHalV
import Derived.Test.YtfompfaepabpgaaSlCoS
import Derived.Maps.OwnOps
import Derived.Maps.Views
import Derived.StringKeys
namespace Go.Proofs.Ytfompfaepabpgaa
open Go.RowKit Go.Maps

def eMap (b : Nat) (xs : List Value) : Big := ⟨3, 0, 0, .map (some b), xs⟩
def noMap (e : Big) : Bool := match e.v with | .map _ => false | _ => true
theorem Fg.newMap {w0 w : World} {B : List Big} (h : Fg w0 w B) {N : Nat} (hN : w.heap.size = N) : Fg w0 (w.alloc (.map #[] 0)) (eMap N (mapV #[] 0) :: B) := by
  subst hN
  have ha := h.alloc (.map #[] 0)
  refine ⟨ha.bel, fun e he => ?_, List.pairwise_cons.2 ⟨fun b hb => .inl rfl, h.far⟩⟩
  rcases List.mem_cons.1 he with rfl | he
  · exact ⟨h.bel.size, #[], 0, (MapKept.heap_alloc w _).1, rfl⟩
  · exact ha.own e he
theorem Fg.mapAt {w0 w : World} {B : List Big} (h : Fg w0 w B) {b : Nat} {xs : List Value} (he : eMap b xs ∈ B) : ∃ es clock, w.heap[b]? = some (.map es clock) ∧ xs = mapV es clock ∧ w0.heap.size ≤ b := by
  obtain ⟨h1, es, clock, h2, h3⟩ : w0.heap.size ≤ b ∧ ∃ es clock, w.heap[b]? = some (.map es clock) ∧ xs = mapV es clock := h.own _ he
  exact ⟨es, clock, h2, h3, h1⟩
theorem Fg.setMap {w0 w w' : World} {B : List Big} {b : Nat} {xs : List Value} (h : Fg w0 w (eMap b xs :: B)) (hB : B.all noMap = true) (hg : w.grownBy w' (some b)) (hw : ∃ es clock, w'.heap[b]? = some (.map es clock)) : ∃ ys, Fg w0 w' (eMap b ys :: B) := by
  obtain ⟨es, clock, h2, -, h1⟩ := h.mapAt List.mem_cons_self
  obtain ⟨es', clock', h3⟩ := hw
  refine ⟨mapV es' clock', ⟨Below.grown (row := some b) h.bel hg h.bel.size (fun k hk => by cases hk; exact h1), fun e he => ?_, List.pairwise_cons.2 ⟨fun b hb => .inl rfl, (List.pairwise_cons.1 h.far).2⟩⟩⟩
  rcases List.mem_cons.1 he with rfl | he
  · exact ⟨h1, es', clock', h3, rfl⟩
  · have hn := List.all_eq_true.1 hB e he
    have ho := h.own e (List.mem_cons_of_mem _ he)
    unfold noMap at hn
    unfold Big.own at ho
    split at ho
    · rename_i b' hb'
      rw [hb'] at hn; cases hn
    · refine Big.ofRow (World.ownsRow.kept ho hg ?_)
      by_cases hv : e.v.ownBlock = none
      · exact .inl hv
      · refine .inr fun e2 => ?_
        exact ownsRow_notMap ho b e2 es clock h2
theorem map_kept {w0 w w' : World} {B C : List Big} {b : Nat} {xs : List Value} (h : Fg w0 w B) (h' : Fg w0 w' C) (he : eMap b xs ∈ B) (he' : eMap b xs ∈ C) : w'.heap[b]? = w.heap[b]? := by
  obtain ⟨es, c, h1, h2, -⟩ := h.mapAt he
  obtain ⟨es', c', h3, h4, -⟩ := h'.mapAt he'
  obtain ⟨rfl, rfl⟩ := mapV_inj (h2.symm.trans h4)
  rw [h1, h3]
theorem lawS : Keyed Try.prog 9 := string_keyed Try.underlying9
theorem zeroI2 (w : World) : (zeroValue 3).run Try.prog w = .ok (.int .i64 0) w := by kernel_rfl
def kyS (s : ByteArray) : Lit := .string s.data.toList
def dJ (c : Int) : DataW Unit := .lit (.int .i64 c)
theorem kyS_inj {s t : ByteArray} (h : kyS s = kyS t) : s = t := by
  unfold kyS at h
  simp only [Lit.string.injEq] at h
  obtain ⟨a⟩ := s; obtain ⟨b⟩ := t
  simp only at h
  rw [Array.toList_inj.1 h]
structure OwnS (B n : Nat) (D : DataW Unit) (mp : ByteArray → Int) (w : World) : Prop where
  map : IsMap D
  at_ : ∀ s : ByteArray, D.atKey (kyS s) (dJ 0) = dJ (mp s)
  own : w.ownsMap Try.prog 9 (plainElem (H := Unit) Try.prog 3) B n D
theorem kyS_of {s : ByteArray} (h : s.size ≤ maxLen) : keyOf Try.prog 9 (.string s) = some (kyS s) := Go.WideMaps.keyOf_string_mk Try.underlying9 h
theorem OwnS.look {B n : Nat} {D : DataW Unit} {mp : ByteArray → Int} {w : World} (h : OwnS B n D mp w) {s : ByteArray} (hs : s.size ≤ maxLen) :
    (Instr.lookup 45 (.map (some B)) (.string s) false).run Try.prog w = .ok (.int .i64 (mp s)) w := by
  obtain ⟨c, hrun, hat, -⟩ := World.ownsMap.lookup_int h.own lawS Try.underlying45 Try.underlying3 (zeroI2 w) (kyS_of hs)
  have h2 := h.at_ s
  rw [show (dJ 0 : DataW Unit) = .lit (.int .i64 0) from rfl, hat] at h2
  unfold dJ at h2
  simp only [DataW.lit.injEq, Lit.int.injEq, true_and] at h2
  rw [h2] at hrun
  exact hrun
theorem OwnS.keep {B n : Nat} {D : DataW Unit} {mp : ByteArray → Int} {w w' : World} (h : OwnS B n D mp w) (e : w'.heap[B]? = w.heap[B]?) : OwnS B n D mp w' := by
  obtain ⟨h1, h2, es, clock, hb, rest⟩ := h
  exact ⟨h1, h2, es, clock, e.trans hb, rest⟩
theorem OwnS.put {B n : Nat} {D : DataW Unit} {mp : ByteArray → Int} {w w' : World} (h : OwnS B n D mp w) (x : ByteArray) (v : Int) (h' : w'.ownsMap Try.prog 9 (plainElem (H := Unit) Try.prog 3) B (n + 1) (D.put (kyS x) (dJ v))) : OwnS B (n + 1) (D.put (kyS x) (dJ v)) (updB mp x v) w' := by
  refine ⟨h.map.put _ _, fun s => ?_, h'⟩
  unfold updB
  by_cases e : s = x
  · rw [if_pos e, e]
    exact atKey_put_same h.map (show WideAt.IsKeyLit (kyS x) from trivial) _ _
  · rw [if_neg e, atKey_put_other (fun h => e (kyS_inj h)), h.at_ s]
theorem OwnS.mono {B n n' : Nat} {D : DataW Unit} {mp : ByteArray → Int} {w : World} (h : OwnS B n D mp w) (hn : n ≤ n') : OwnS B n' D mp w := ⟨h.map, h.at_, h.own.mono hn⟩
theorem Hw.newMap {w0 w : World} {H : Nat} {s : HSt} {B : List Big} (h : Hw w0 w H s B) {N : Nat} (hN : w.heap.size = N) : Hw w0 (w.alloc (.map #[] 0)) H s (eMap N (mapV #[] 0) :: B) := by
  obtain ⟨am, cm, al, cl, hf⟩ := h
  exact Hw.into (hf.newMap hN)
theorem Hw.mapKept {w0 w w' : World} {H H' : Nat} {s s' : HSt} {B C : List Big} {b : Nat} {xs : List Value} (h : Hw w0 w H s B) (h' : Hw w0 w' H' s' C) (he : eMap b xs ∈ B) (he' : eMap b xs ∈ C) : w'.heap[b]? = w.heap[b]? := by
  obtain ⟨am, cm, al, cl, hf⟩ := h
  obtain ⟨am', cm', al', cl', hf'⟩ := h'
  exact map_kept (xs := xs) hf hf' (by simp [hallE, he]) (by simp [hallE, he'])
theorem Hw.setMap {w0 w w' : World} {H : Nat} {s : HSt} {B : List Big} {b : Nat} {xs : List Value} (h : Hw w0 w H s (eMap b xs :: B)) (hB : B.all noMap = true) (hg : w.grownBy w' (some b)) (hw : ∃ es clock, w'.heap[b]? = some (.map es clock)) : ∃ ys, Hw w0 w' H s (eMap b ys :: B) := by
  obtain ⟨am, cm, al, cl, hf⟩ := h.out
  obtain ⟨ys, h2⟩ := hf.setMap (by simp only [hallE, List.all_cons, hB]; rfl) hg hw
  exact ⟨ys, Hw.into h2⟩
theorem OwnS.block {B n : Nat} {D : DataW Unit} {mp : ByteArray → Int} {w : World} (h : OwnS B n D mp w) : ∃ es clock, w.heap[B]? = some (.map es clock) := by
  obtain ⟨_, _, es, clock, hb, _⟩ := h
  exact ⟨es, clock, hb⟩
theorem OwnS.start (w : World) : OwnS w.heap.size 0 (.map []) (fun _ => 0) (w.alloc (.map #[] 0)) :=
  ⟨isMap_empty, fun s => WideAt.atKey_none _ (fun p hp => by cases hp), World.ownsMap_made w Try.prog 9 _⟩
end Go.Proofs.Ytfompfaepabpgaa
