/- Deeds that came in, from the frame. -/
import Derived.Test.YtfompfaepabpgaaStrus
import Derived.Test.YtfompfaepabpgaaHalT
namespace Go.Proofs.Ytfompfaepabpgaa
open Go.RowKit

theorem rowsC_flat {α : Type} (f : α → List Value) : ∀ l : List α, l.flatMap f = rowsC f l
  | [] => rfl
  | x :: l => by rw [List.flatMap_cons, rowsC, rowsC_flat f l]
theorem IsStr.deeds {w : World} {a : Option Addr} {len cap : Nat} (h : IsStr [.int, .int, .str, .str] w a len cap) : ∃ D : List Deed, Deeds w a len D := by
  obtain ⟨h1, h2, h3⟩ := h
  rcases h3 with ⟨rfl, rfl, rfl⟩ | ⟨x, rfl, hc⟩
  · exact ⟨[], rfl, Sa.nil _ _, fun d hd => by cases hd⟩
  · obtain ⟨l, e, _, hs⟩ := sa_structs (α := {d : Deed // d.nm.size ≤ maxLen}) (fun d => deedC d.1) 4 (fun _ => rfl) (by decide) ⟨⟨0, 0, ⟨#[]⟩, ⟨#[]⟩⟩, by decide⟩ (w := w) (a := x) (len := len) (fun i hi => by
      obtain ⟨v0, c0, n0, rfl⟩ := hc i hi 0 .int rfl
      obtain ⟨v1, c1, n1, rfl⟩ := hc i hi 1 .int rfl
      obtain ⟨v2, c2, n2, rfl, hz⟩ := hc i hi 2 .str rfl
      obtain ⟨v3, c3, n3, rfl, -⟩ := hc i hi 3 .str rfl
      refine ⟨⟨⟨n0, n1, n2, n3⟩, hz⟩, fun j hj => ?_⟩
      have : j = 0 ∨ j = 1 ∨ j = 2 ∨ j = 3 := by omega
      rcases this with rfl | rfl | rfl | rfl
      · exact c0
      · exact c1
      · exact c2
      · exact c3)
    refine ⟨l.map (·.1), by rw [List.length_map]; exact e, ?_, fun d hd => ?_⟩
    · rw [← rowsC_flat, List.flatMap_map]; exact hs
    · obtain ⟨y, _, rfl⟩ := List.mem_map.1 hd
      exact y.2
theorem Hw.newDeed {w0 w : World} {H : Nat} {s : HSt} {B : List Big} (h : Hw w0 w H s B) (k n : Int) (nm to : ByteArray) {N : Nat} (hN : w.heap.size = N) : Hw w0 (w.alloc (.cells #[.int .i64 k, .int .i64 n, .string nm, .string to] 27)) H s (eD N k n nm to :: B) := by
  obtain ⟨am, cm, al, cl, hf⟩ := h
  exact Hw.into (hf.new 27 #[.int .i64 k, .int .i64 n, .string nm, .string to] [.int .i64 k, .int .i64 n, .string nm, .string to] rfl N hN 4 rfl (by omega))
end Go.Proofs.Ytfompfaepabpgaa
