/- What the frame of a law tells of a slice of pairs of integers that came in. -/
import Derived.Test.YtgblmbhbbjgdiaaArr4
import Derived.OpenShut
namespace Go.Proofs.Ytgblmbhbbjgdiaa
open Go.RowKit Go.ChangeShapes Go.WideShapes

def IsPair (w : World) (a : Option Addr) (len cap : Nat) (zs : List Int) : Prop :=
  zs.length = 2 * len ∧ len ≤ cap ∧ len ≤ maxLen ∧ ((a = none ∧ len = 0) ∨ ∃ x : Addr, a = some x ∧ ∀ i, i < zs.length → w.cell? (x.add i) = some (.int .i64 (zs.getD i 0)))
theorem IsPair.sa {w : World} {a : Option Addr} {len cap : Nat} {zs : List Int} (h : IsPair w a len cap zs) : Sa w a (ints zs) ∧ zs.length = 2 * len ∧ len ≤ cap ∧ len ≤ maxLen := by
  obtain ⟨h1, h2, h3, h4⟩ := h
  refine ⟨fun h0 => ?_, h1, h2, h3⟩
  rw [ints_len] at h0
  rcases h4 with ⟨_, rfl⟩ | ⟨x, rfl, hc⟩
  · omega
  · have hz := hc 0 (by omega)
    obtain ⟨b, off, spot⟩ := x
    have hs : spot = none := by
      cases spot with
      | none => rfl
      | some s =>
        unfold World.cell? at hz
        simp only [Addr.add] at hz
        split at hz
        · simp at hz
        · cases hz
    subst hs
    refine ⟨b, off, rfl, ?_, fun i hi => ?_⟩
    · unfold World.cell? at hz
      simp only [Addr.add] at hz
      split at hz
      · next hq => exact (Array.getElem?_eq_some_iff.1 hq).1
      · cases hz
    · rw [ints_len] at hi
      have := hc i hi
      rw [show ((⟨b, off, none⟩ : Addr).add i) = ⟨b, off + i, none⟩ from by simp [Addr.add]] at this
      rw [this, ints_get _ _ hi]; rfl
section
variable {H : Type} {enc : TypeId × Value → H} {P : Program} {w : World} {base : Nat} {spare : Nat → Bool} {held : Bool}
theorem open_pairs {t e e2 : TypeId} {fuel : Nat} {cs : List Value} {x : DataW H × List MemPlace} (ht : P.underlying t = some (.slice e)) (he : P.underlying e = some (.array 2 e2)) (he2 : P.underlying e2 = some (.int .i64)) (hc : P.cellsOf e = 2) (hc2 : P.cellsOf e2 = 1)
    (h : DataW.trod enc P w base spare held fuel t cs = some x) :
    cs = [.slice none 0 0] ∨
    ∃ (a : Addr) (len cap : Nat) (zs : List Int), cs = [.slice (some a) len cap] ∧ len ≤ cap ∧ cap ≤ maxLen ∧ zs.length = 2 * len ∧ (∀ i, i < zs.length → w.cell? (a.add i) = some (.int .i64 (zs.getD i 0))) := by
  rcases DataW.trod_slice ht h with h0 | ⟨a, len, cap, elems, rest, n, _, rfl, rfl, hb, hl, hm, hlen, hel, hsp, hns⟩
  · exact .inl h0.1
  right
  have each : ∀ i, i < len → ∃ u v : Int, w.cell? (a.add (i * 2)) = some (.int .i64 u) ∧ w.cell? (a.add (i * 2 + 1)) = some (.int .i64 v) := by
    intro i hi
    have hb' := hel i hi
    rw [List.getElem?_eq_getElem (by omega), hc, Option.bind_eq_some_iff] at hb'
    obtain ⟨cs', hcs, hy⟩ := hb'
    obtain ⟨xs, m, rfl, -, -, hxl, hx⟩ := DataW.trod_array he hy
    obtain ⟨-, hcl, hcell⟩ := World.cells?_some hcs
    have e0 := hx 0 (by omega)
    have e1 := hx 1 (by omega)
    rw [hc2, List.getElem?_eq_getElem (by omega)] at e0 e1
    obtain ⟨u, hu, -, -⟩ := DataW.trod_int he2 e0
    obtain ⟨v, hv, -, -⟩ := DataW.trod_int he2 e1
    have c0 := hcell 0 (by omega)
    have c1 := hcell 1 (by omega)
    have hcs' : cs' = [.int .i64 u, .int .i64 v] := by
      match cs', hcl with
      | [p, q], _ =>
        simp at hu hv
        rw [hu, hv]
    rw [hcs'] at c0 c1
    rw [Addr.add_add] at c0 c1
    exact ⟨u, v, c0, c1⟩
  have ex : ∀ i, ∃ p : Int × Int, i < len → w.cell? (a.add (i * 2)) = some (.int .i64 p.1) ∧ w.cell? (a.add (i * 2 + 1)) = some (.int .i64 p.2) := fun i => by
    by_cases hi : i < len
    · obtain ⟨u, v, h1, h2⟩ := each i hi
      exact ⟨(u, v), fun _ => ⟨h1, h2⟩⟩
    · exact ⟨(0, 0), fun h => absurd h hi⟩
  obtain ⟨F, hF⟩ : ∃ F : Nat → Int × Int, ∀ i, i < len → w.cell? (a.add (i * 2)) = some (.int .i64 (F i).1) ∧ w.cell? (a.add (i * 2 + 1)) = some (.int .i64 (F i).2) := ⟨fun i => Classical.choose (ex i), fun i hi => Classical.choose_spec (ex i) hi⟩
  refine ⟨a, len, cap, (List.range (2 * len)).map (fun j => if j % 2 = 0 then (F (j / 2)).1 else (F (j / 2)).2), rfl, hl, hm, by simp, fun j hj => ?_⟩
  simp only [List.length_map, List.length_range] at hj
  have hs := hF (j / 2) (by omega)
  rw [List.getD_eq_getElem?_getD, List.getElem?_map, List.getElem?_range hj]
  simp only [Option.map_some, Option.getD_some]
  by_cases h0 : j % 2 = 0
  · rw [if_pos h0]
    have e1 := hs.1
    rwa [show j / 2 * 2 = j from by omega] at e1
  · rw [if_neg h0]
    have e2 := hs.2
    rwa [show j / 2 * 2 + 1 = j from by omega] at e2
end
end Go.Proofs.Ytgblmbhbbjgdiaa
