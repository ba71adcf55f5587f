/- Two halls. -/
import Derived.Test.YtfompfaepabpgaaHalT
namespace Go.Proofs.Ytfompfaepabpgaa
open Go.RowKit

theorem Hw.newDeed {w0 w : World} {H : Nat} {s : HSt} {B : List Big} (h : Hw w0 w H s B) (k n : Int) (nm to : ByteArray) {N : Nat} (hN : w.heap.size = N) : Hw w0 (w.alloc (.cells #[.int .i64 k, .int .i64 n, .string nm, .string to] 27)) H s (eD N k n nm to :: B) := by
  obtain ⟨am, cm, al, cl, hf⟩ := h
  exact Hw.into (hf.new 27 #[.int .i64 k, .int .i64 n, .string nm, .string to] [.int .i64 k, .int .i64 n, .string nm, .string to] rfl N hN 4 rfl (by omega))
/-- two halls beside each other -/
def Hw2 (w0 w : World) (H G : Nat) (s t : HSt) (B : List Big) : Prop := ∃ am cm al cl, Hw w0 w H s (hallE G am cm al cl t B)
theorem Hw2.swap {w0 w : World} {H G : Nat} {s t : HSt} {B : List Big} (h : Hw2 w0 w H G s t B) : Hw2 w0 w G H t s B := by
  obtain ⟨am, cm, al, cl, am', cm', al', cl', hf⟩ := h
  refine ⟨am', cm', al', cl', am, cm, al, cl, hf.perm ?_⟩
  show List.Perm ([eH H _ _, eM am' cm' s.M, eL al' cl' s.L] ++ ([eH G _ _, eM am cm t.M, eL al cl t.L] ++ B)) _
  exact List.perm_append_comm_assoc _ _ _
theorem Hw2.below {w0 w : World} {H G : Nat} {s t : HSt} {B : List Big} (h : Hw2 w0 w H G s t B) : Below w0.heap.size w0 w := by
  obtain ⟨_, _, _, _, hf⟩ := h
  exact hf.below
theorem Hw2.keep {w0 w w' : World} {H G : Nat} {s t : HSt} {B : List Big} (h : Hw2 w0 w H G s t B) (b : Below w.heap.size w w') : Hw2 w0 w' H G s t B := by
  obtain ⟨_, _, _, _, hf⟩ := h
  exact ⟨_, _, _, _, hf.keep b⟩
theorem Hw2.sub {w0 w : World} {H G : Nat} {s t : HSt} {B C : List Big} (h : Hw2 w0 w H G s t B) (p : C.Sublist B) : Hw2 w0 w H G s t C := by
  obtain ⟨am, cm, al, cl, hf⟩ := h
  exact ⟨am, cm, al, cl, hf.sub (.cons_cons _ (.cons_cons _ (.cons_cons _ p)))⟩
theorem Hw2.told {w0 w : World} {H G : Nat} {s t : HSt} {B : List Big} (h : Hw2 w0 w H G s t B) {N : Nat} {nm : ByteArray} {n : Int} (he : eT N nm n ∈ B) :
    w.cell? ⟨N, 0, .none⟩ = some (.string nm) ∧ w.cell? ⟨N, 1, .none⟩ = some (.int .i64 n) ∧ w.frozen? ⟨N, 0, .none⟩ = false ∧ w.frozen? ⟨N, 1, .none⟩ = false := by
  obtain ⟨am, cm, al, cl, hf⟩ := h
  exact hf.told (by simp [hallE, he])
theorem Hw2.deed {w0 w : World} {H G : Nat} {s t : HSt} {B : List Big} (h : Hw2 w0 w H G s t B) {N : Nat} {k n : Int} {nm to : ByteArray} (he : eD N k n nm to ∈ B) :
    w.cell? ⟨N, 0, .none⟩ = some (.int .i64 k) ∧ w.cell? ⟨N, 1, .none⟩ = some (.int .i64 n) ∧ w.cell? ⟨N, 2, .none⟩ = some (.string nm) ∧ w.cell? ⟨N, 3, .none⟩ = some (.string to) ∧ N < w.heap.size := by
  obtain ⟨am, cm, al, cl, hf⟩ := h
  exact hf.deed (by simp [hallE, he])
theorem Hw2.newTold {w0 w : World} {H G : Nat} {s t : HSt} {B : List Big} (h : Hw2 w0 w H G s t B) (nm : ByteArray) (n : Int) {N : Nat} (hN : w.heap.size = N) : Hw2 w0 (w.alloc (.cells #[.string nm, .int .i64 n] 32)) H G s t (eT N nm n :: B) := by
  obtain ⟨am, cm, al, cl, hf⟩ := h
  refine ⟨am, cm, al, cl, (hf.newTold nm n hN).perm ?_⟩
  exact (List.perm_middle (a := eT N nm n) (l₁ := [_, _, _]) (l₂ := B)).symm
theorem Hw2.newDeed {w0 w : World} {H G : Nat} {s t : HSt} {B : List Big} (h : Hw2 w0 w H G s t B) (k n : Int) (nm to : ByteArray) {N : Nat} (hN : w.heap.size = N) : Hw2 w0 (w.alloc (.cells #[.int .i64 k, .int .i64 n, .string nm, .string to] 27)) H G s t (eD N k n nm to :: B) := by
  obtain ⟨am, cm, al, cl, hf⟩ := h
  refine ⟨am, cm, al, cl, (hf.newDeed k n nm to hN).perm ?_⟩
  exact (List.perm_middle (a := eD N k n nm to) (l₁ := [_, _, _]) (l₂ := B)).symm
/-- a deed in the first of two halls -/
theorem halDo2h {w0 w : World} (H G : Nat) (s t : HSt) (B : List Big) (K : Nat) (k n : Int) (nm to : ByteArray) (h : Hw2 w0 w H G s t B) (ok : HOk s K) (hK : (K + 1) * 40 ≤ 140737488355328) (hs : nm.size ≤ maxLen) :
    Calls Try.prog 15 #[.pointer (some ⟨H, 0, .none⟩), .agg #[.int .i64 k, .int .i64 n, .string nm, .string to]] w
      fun e w' => e = .returned (.tuple #[.agg #[.string (doS s k n nm to).nm, .int .i64 (doS s k n nm to).n], .int .i64 (doS s k n nm to).er]) ∧ Hw2 w0 w' H G (doS s k n nm to).s t B := by
  obtain ⟨am, cm, al, cl, hf⟩ := h
  exact (halDo H s _ K k n nm to hf ok hK hs).mono fun e w' ⟨h1, h2⟩ => ⟨h1, am, cm, al, cl, h2⟩
theorem Hw2.alloc {w0 w : World} {H G : Nat} {s t : HSt} {B : List Big} (h : Hw2 w0 w H G s t B) (o : Obj) : Hw2 w0 (w.alloc o) H G s t B := h.keep ((Fr.start w).alloc o).bel
theorem Hw2.drew {w0 w : World} {H G : Nat} {s t : HSt} {B : List Big} (h : Hw2 w0 w H G s t B) : Hw2 w0 w.drew H G s t B := h.keep (Below.refl _ _).drew
/-- an element beside two halls, told to be the first -/
theorem Hw2.out {w0 w : World} {H G : Nat} {s t : HSt} {e : Big} {B : List Big} (h : Hw2 w0 w H G s t (e :: B)) : ∃ am cm al cl am' cm' al' cl', Fg w0 w (e :: hallE H am cm al cl s (hallE G am' cm' al' cl' t B)) := by
  obtain ⟨am', cm', al', cl', am, cm, al, cl, hf⟩ := h
  exact ⟨am, cm, al, cl, am', cm', al', cl', hf.perm (List.perm_middle (a := e) (l₁ := [_, _, _, _, _, _]) (l₂ := B))⟩
theorem Hw2.into {w0 w : World} {H G : Nat} {s t : HSt} {e : Big} {B : List Big} {am al am' al' : Option Addr} {cm cl cm' cl' : Nat} (h : Fg w0 w (e :: hallE H am cm al cl s (hallE G am' cm' al' cl' t B))) : Hw2 w0 w H G s t (e :: B) :=
  ⟨am', cm', al', cl', am, cm, al, cl, h.perm (List.perm_middle (a := e) (l₁ := [_, _, _, _, _, _]) (l₂ := B)).symm⟩
theorem Hw2.setDeed {w0 w : World} {H G : Nat} {s t : HSt} {N : Nat} {k n : Int} {nm to : ByteArray} {B : List Big} (h : Hw2 w0 w H G s t (eD N k n nm to :: B)) (k' n' : Int) (nm' to' : ByteArray) :
    Hw2 w0 ((((w.setCell ⟨N, 0, none⟩ (.int .i64 k')).setCell ⟨N, 1, none⟩ (.int .i64 n')).setCell ⟨N, 2, none⟩ (.string nm')).setCell ⟨N, 3, none⟩ (.string to')) H G s t (eD N k' n' nm' to' :: B) := by
  obtain ⟨am, cm, al, cl, am', cm', al', cl', hf⟩ := h.out
  exact Hw2.into ((((hf.set 0 (.int .i64 k')).set 1 (.int .i64 n')).set 2 (.string nm')).set 3 (.string to'))
theorem Hw2.deedX {w0 w : World} {H G : Nat} {s t : HSt} {B : List Big} (h : Hw2 w0 w H G s t B) (N : Nat) (k n : Int) (nm tt : ByteArray) (he : eD N k n nm tt ∈ B) :
    w.cell? ⟨N, 0, .none⟩ = some (.int .i64 k) ∧ w.cell? ⟨N, 1, .none⟩ = some (.int .i64 n) ∧ w.cell? ⟨N, 2, .none⟩ = some (.string nm) ∧ w.cell? ⟨N, 3, .none⟩ = some (.string tt) ∧ N < w.heap.size := h.deed he
theorem Hw2.perm {w0 w : World} {H G : Nat} {s t : HSt} {B C : List Big} (h : Hw2 w0 w H G s t B) (p : B.Perm C) : Hw2 w0 w H G s t C := by
  obtain ⟨am, cm, al, cl, hf⟩ := h
  exact ⟨am, cm, al, cl, hf.perm (.cons _ (.cons _ (.cons _ p)))⟩
end Go.Proofs.Ytfompfaepabpgaa
