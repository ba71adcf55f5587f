/- The contracts of package blocks and of Compare, over Sa and Fr. -/
import Derived.Test.YtdcekplmmfenlaaBlkNext
import Derived.Test.YtdcekplmmfenlaaSlEq2
namespace Go.Proofs.Ytdcekplmmfenlaa
open Go.RowKit

theorem Sa.sl' {w : World} {a : Option Addr} {l : List Int} (h : Sa w a (ints l)) (n cap : Nat) (hn : l.length = n) : Sl w (.slice a n cap) l := by subst hn; exact h.sl
theorem Own.fr {w w' : World} {v : Value} {l : List Int} (h : Own w' w.heap.size v l) (b : Below w.heap.size w w') : Fr w w' [⟨3, v, ints l⟩] := by
  refine ⟨b, ⟨fun e he => ?_, List.pairwise_singleton _ _⟩⟩
  simp only [List.mem_singleton] at he
  subst he
  unfold Ent.own
  rw [ints_len]
  exact h
def OneSl (l : List Int) (n : Nat) (err : Int) (w : World) (e : Ending) (w' : World) : Prop :=
  ∃ ad cp, e = .returned (.tuple #[.slice ad n cp, .int .i64 err]) ∧ n ≤ cp ∧ Fr w w' [⟨3, .slice ad n cp, ints l⟩]
theorem blkOf (l : List Int) (n : Nat) (a : Option Addr) (cap : Nat) (w : World) (h : Sa w a (ints l)) (hn : l.length = n) (hl : n ≤ 10) :
    Calls Try.prog 29 #[.slice a n cap] w (OneSl (ofRun l).2 n 0 w) := by
  refine (blkOf_any l _ w (h.sl' n cap hn) (by omega)).mono ?_
  rintro e w' ⟨v, rfl, ho, hb⟩
  have hf := ho.fr hb
  obtain ⟨ad, cp, rfl⟩ := hf.isSlice
  have e : (ints (ofRun l).2).length = n := by rw [ints_len, (ofRun_len l).2, hn]
  rw [e] at hf ⊢
  exact ⟨ad, cp, rfl, hf.cap, hf⟩
theorem slCmp (l m : List Int) (n : Nat) (a b : Option Addr) (ca cb : Nat) (w : World) (h : Sa w a (ints l)) (h' : Sa w b (ints m)) (hn : l.length = n) (hm : m.length = n) (hl : n ≤ 1000000) :
    Calls Try.prog 37 #[.slice a n ca, .slice b n cb] w fun e w' => e = .returned (.int .i64 (lexC l m)) ∧ w = w' :=
  slCompare l m _ _ w (h.sl' n ca hn) (h'.sl' n cb hm) (by omega) (by omega)
theorem blkChk (l : List Int) (n : Nat) (a : Option Addr) (cap : Nat) (w : World) (h : Sa w a (ints l)) (hn : l.length = n) (hl : n ≤ 10) (hg : GrowsOk l) :
    Calls Try.prog 31 #[.slice a n cap] w fun e w' => e = .returned (.int .i64 0) ∧ w = w' :=
  blkCheck_ok l _ w (h.sl' n cap hn) (by omega) hg
/-- a slice literal -/
theorem Fr.lit {w0 w : World} {L : List Ent} (h : Fr w0 w L) (l : List Int) (cs : Array Value) (e : cs.toList = ints l) (n : Nat) (hn : n = l.length) (hl : n ≤ 1000000) (T : TypeId) :
    Fr w0 (w.alloc (.cells cs T)) (⟨T, .slice (some ⟨w.heap.size, 0, none⟩) n n, ints l⟩ :: L) := h.new T cs (ints l) e n (by rw [ints_len]; exact hn) hl
end Go.Proofs.Ytdcekplmmfenlaa
