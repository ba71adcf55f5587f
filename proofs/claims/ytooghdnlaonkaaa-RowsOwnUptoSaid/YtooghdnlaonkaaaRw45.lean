/- Several of my texts in one: Mats2. -/
import Derived.Test.YtooghdnlaonkaaaRw15
import Derived.OpenShut
import Derived.Deep.Matrix
/- What the frame of a law tells of a slice of slices of ints that came in (Rm). -/
namespace Go.Proofs.Ytooghdnlaonkaaa
open Go.RowKit Go.ChangeShapes Go.WideShapes Go.Deep

def IsMat (w : World) (a : Option Addr) (len cap : Nat) : Prop :=
  len ≤ cap ∧ len ≤ maxLen ∧ ∃ R : List Rw, R.length = len ∧ Rm w a R ∧ ∀ p ∈ R, p.2.2.length ≤ maxLen ∧ ∀ x ∈ p.2.2, -9223372036854775808 ≤ x ∧ x ≤ 9223372036854775807
theorem IsMat.nil (w : World) : IsMat w none 0 0 := ⟨Nat.le_refl _, Nat.zero_le _, [], rfl, ⟨Sa.nil _ _, fun p hp => by simp at hp⟩, fun p hp => by simp at hp⟩
theorem spot_none {w : World} {b off : Nat} {s : Option Nat} {v : Value} (h : w.cell? ((⟨b, off, s⟩ : Addr).add 0) = some v) : s = none ∧ b < w.heap.size := by
  unfold World.cell? at h
  simp only [Addr.add, if_true] at h
  split at h
  · next hq =>
    refine ⟨?_, (Array.getElem?_eq_some_iff.1 hq).1⟩
    cases s with
    | none => rfl
    | some s => simp at h
  · cases h
theorem isMat_of {w : World} {a : Addr} {len cap : Nat} {A : Nat → Option Addr} {L C : Nat → Nat} {Z : Nat → List Int} (hlc : len ≤ cap) (hcm : cap ≤ maxLen)
    (h : ∀ r, r < cap → w.cell? (a.add r) = some (.slice (A r) (L r) (C r)) ∧ L r ≤ C r ∧ C r ≤ maxLen ∧ (Z r).length = C r ∧ (∀ n ∈ Z r, (Lit.int .i64 n).wf = true) ∧ (A r = none → C r = 0) ∧
        ∀ a', A r = some a' → 0 ≤ a'.block ∧ ∀ c, c < C r → w.cell? (a'.add c) = some (.int .i64 ((Z r).getD c 0))) : IsMat w (some a) len cap := by
  refine ⟨hlc, Nat.le_trans hlc hcm, (List.range len).map fun r => (A r, C r, (Z r).take (L r)), by simp, ⟨?_, ?_⟩, ?_⟩
  · intro h0
    simp only [List.length_map, List.length_range] at h0
    obtain ⟨b, off, spot⟩ := a
    obtain ⟨rfl, hb⟩ := spot_none (h 0 (by omega)).1
    refine ⟨b, off, rfl, hb, fun i hi => ?_⟩
    simp only [List.length_map, List.length_range] at hi
    have h1 := h i (by omega)
    rw [show ((⟨b, off, none⟩ : Addr).add i) = ⟨b, off + i, none⟩ from by simp [Addr.add]] at h1
    rw [h1.1, List.getElem?_map, List.getElem?_map, List.getElem?_range hi]
    simp only [Option.map_some, rv, List.length_take, h1.2.2.2.1, Nat.min_eq_left h1.2.1]
  · intro p hp
    obtain ⟨r, hr, rfl⟩ := List.mem_map.1 hp
    have hr := List.mem_range.1 hr
    obtain ⟨h1, h2, h3, h4, h5, h6, h7⟩ := h r (by omega)
    intro h0
    simp only [ints_len, List.length_take, h4] at h0
    cases hA : A r with
    | none => have := h6 hA; omega
    | some a' =>
      obtain ⟨b, off, spot⟩ := a'
      have hc := (h7 _ hA).2
      obtain ⟨rfl, hb⟩ := spot_none (hc 0 (by omega))
      refine ⟨b, off, by simp, hb, fun i hi => ?_⟩
      simp only [ints_len, List.length_take, h4] at hi
      have := hc i (by omega)
      rw [show ((⟨b, off, none⟩ : Addr).add i) = ⟨b, off + i, none⟩ from by simp [Addr.add]] at this
      rw [this, ints_get _ _ (by rw [List.length_take, h4]; exact hi), nth_take _ _ _ (by omega)]; rfl
  · intro p hp
    obtain ⟨r, hr, rfl⟩ := List.mem_map.1 hp
    have hr := List.mem_range.1 hr
    obtain ⟨h1, h2, h3, h4, h5, h6, h7⟩ := h r (by omega)
    refine ⟨by rw [List.length_take, h4]; omega, fun x hx => ?_⟩
    have := h5 x (List.mem_of_mem_take hx)
    simp [Lit.wf, go_sem] at this
    have e1 : IntKind.i64.min = -9223372036854775808 := by decide
    omega
end Go.Proofs.Ytooghdnlaonkaaa
