/- Slices of threads and of turns that came in. -/
import Derived.Test.YtgblmbhbbjgdiaaStrus
import Derived.Test.YtgblmbhbbjgdiaaWWar1
namespace Go.Proofs.Ytgblmbhbbjgdiaa
open Go.RowKit

theorem IsStr.ths {w : World} {a : Option Addr} {len cap : Nat} (h : IsStr [.int, .int, .bool, .bool] w a len cap) : ∃ l : List Rn, l.length = len ∧ len ≤ cap ∧ len ≤ maxLen ∧ Sa w a (ths l) := by
  obtain ⟨h1, h2, h3⟩ := h
  rcases h3 with ⟨rfl, rfl, rfl⟩ | ⟨x, rfl, hc⟩
  · exact ⟨[], rfl, h1, h2, Sa.nil _ _⟩
  · obtain ⟨l, e, _, hs⟩ := sa_structs thC 4 (fun _ => rfl) (by decide) rn0 (w := w) (a := x) (len := len) (fun i hi => by
      obtain ⟨v0, c0, n0, rfl⟩ := hc i hi 0 .int rfl
      obtain ⟨v1, c1, n1, rfl⟩ := hc i hi 1 .int rfl
      obtain ⟨v2, c2, n2, rfl⟩ := hc i hi 2 .bool rfl
      obtain ⟨v3, c3, n3, rfl⟩ := hc i hi 3 .bool rfl
      refine ⟨⟨n0, n1, n2, n3, 0⟩, fun j hj => ?_⟩
      have : j = 0 ∨ j = 1 ∨ j = 2 ∨ j = 3 := by omega
      rcases this with rfl | rfl | rfl | rfl
      · exact c0
      · exact c1
      · exact c2
      · exact c3)
    exact ⟨l, e, h1, h2, hs⟩
theorem IsStr.tus {w : World} {a : Option Addr} {len cap : Nat} (h : IsStr [.int, .int, .int] w a len cap) : ∃ l : List Tu, l.length = len ∧ len ≤ cap ∧ len ≤ maxLen ∧ Sa w a (tus l) := by
  obtain ⟨h1, h2, h3⟩ := h
  rcases h3 with ⟨rfl, rfl, rfl⟩ | ⟨x, rfl, hc⟩
  · exact ⟨[], rfl, h1, h2, Sa.nil _ _⟩
  · obtain ⟨l, e, _, hs⟩ := sa_structs tuC 3 (fun _ => rfl) (by decide) tu0 (w := w) (a := x) (len := len) (fun i hi => by
      obtain ⟨v0, c0, n0, rfl⟩ := hc i hi 0 .int rfl
      obtain ⟨v1, c1, n1, rfl⟩ := hc i hi 1 .int rfl
      obtain ⟨v2, c2, n2, rfl⟩ := hc i hi 2 .int rfl
      refine ⟨⟨n0, n1, n2⟩, fun j hj => ?_⟩
      have : j = 0 ∨ j = 1 ∨ j = 2 := by omega
      rcases this with rfl | rfl | rfl
      · exact c0
      · exact c1
      · exact c2)
    exact ⟨l, e, h1, h2, hs⟩
end Go.Proofs.Ytgblmbhbbjgdiaa
