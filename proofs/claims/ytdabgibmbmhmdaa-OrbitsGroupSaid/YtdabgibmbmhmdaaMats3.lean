/- What the frame of a law tells of a slice of slices of ints that came in, how long its rows may be too. -/
import Derived.Test.YtdabgibmbmhmdaaMats2
import Derived.Test.YtdabgibmbmhmdaaSized
namespace Go.Proofs.Ytdabgibmbmhmdaa
open Go.RowKit Go.ChangeShapes Go.WideShapes Go.Deep

theorem weightsAll_mem {H : Type} {P : Program} {e : TypeId} : ∀ {ds : List (DataW H)} {d : DataW H}, d ∈ ds → ∀ n ∈ d.weights P e, n ∈ DataW.weightsAll P e ds
  | [], _, h, _, _ => by cases h
  | x :: r, d, h, n, hn => by
    rw [DataW.weightsAll, List.mem_append]
    rcases List.mem_cons.1 h with rfl | h
    · exact .inl hn
    · exact .inr (weightsAll_mem h n hn)
theorem row_sized {H : Type} {P : Program} {ts : List TypeId} {ds : List (DataW H)} (h : (DataW.weightsEach P ts ds).all (· ≤ reachBytes) = true) (j : Nat) {t e q : TypeId} {k : IntKind} {len : Nat} {A : Nat → Option Addr} {L C : Nat → Nat} {Z : Nat → List Int} {sp : List (DataW H)}
    (ht : ts[j]? = some t) (hd : ds[j]? = some (.slice ((List.range len).map fun r => intRow k (A r) (L r) (Z r)) sp)) (hu : P.underlying t = some (.slice e)) (he : P.underlying e = some (.slice q))
    (r : Nat) (hr : r < len) (hz : (Z r).length = C r) (hn : A r = none → C r = 0) : C r * P.bytesOf q ≤ 140737488351232 := by
  have h3 : reachBytes = 140737488351232 := by decide
  cases hA : A r with
  | none => rw [hn hA]; omega
  | some a =>
    have hm : (intRow k (A r) (L r) (Z r) : DataW H) ∈ (List.range len).map fun r => intRow k (A r) (L r) (Z r) := List.mem_map.2 ⟨r, List.mem_range.2 hr, rfl⟩
    have hw : C r * P.bytesOf q ∈ (intRow k (A r) (L r) (Z r) : DataW H).weights P e := by
      unfold intRow
      rw [hA]
      simp only [DataW.weights, he]
      have e1 : ((lits k ((Z r).take (L r)) : List (DataW H)).length + (lits k ((Z r).drop (L r)) : List (DataW H)).length) = C r := by
        simp [lits]; omega
      rw [e1]
      exact List.mem_cons_self
    have := List.all_eq_true.1 h _ (DataW.weights_mem_each ht hd _ (by
      simp only [DataW.weights, hu]
      exact List.mem_cons_of_mem _ (List.mem_append_left _ (weightsAll_mem hm _ hw))))
    have := of_decide_eq_true this
    omega
def IsMatS (w : World) (a : Option Addr) (len cap : Nat) : Prop :=
  len ≤ cap ∧ len ≤ maxLen ∧ ∃ R : List Rw, R.length = len ∧ Rm w a R ∧ ∀ p ∈ R, p.2.2.length ≤ p.2.1 ∧ p.2.1 ≤ maxLen ∧ p.2.2.length * 8 ≤ 140737488351232 ∧ (p.1 = none → p.2.1 = 0) ∧ ∀ x ∈ p.2.2, -9223372036854775808 ≤ x ∧ x ≤ 9223372036854775807
theorem IsMatS.nil (w : World) : IsMatS w none 0 0 := ⟨Nat.le_refl _, Nat.zero_le _, [], rfl, ⟨Sa.nil _ _, fun p hp => by simp at hp⟩, fun p hp => by simp at hp⟩
theorem isMatS_of {w : World} {a : Addr} {len cap : Nat} {A : Nat → Option Addr} {L C : Nat → Nat} {Z : Nat → List Int} (hlc : len ≤ cap) (hcm : cap ≤ maxLen)
    (h : ∀ r, r < cap → w.cell? (a.add r) = some (.slice (A r) (L r) (C r)) ∧ L r ≤ C r ∧ C r ≤ maxLen ∧ (Z r).length = C r ∧ (∀ n ∈ Z r, (Lit.int .i64 n).wf = true) ∧ (A r = none → C r = 0) ∧
        ∀ a', A r = some a' → 0 ≤ a'.block ∧ ∀ c, c < C r → w.cell? (a'.add c) = some (.int .i64 ((Z r).getD c 0)))
    (hs : ∀ r, r < len → C r * 8 ≤ 140737488351232) : IsMatS w (some a) len cap := by
  have hmat : Rm w (some a) ((List.range len).map fun r => (A r, C r, (Z r).take (L r))) := by
    refine ⟨?_, ?_⟩
    · intro h0
      simp only [List.length_map, List.length_range] at h0
      obtain ⟨b, off, spot⟩ := a
      obtain ⟨rfl, hb⟩ := spot_none (h 0 (by omega)).1
      refine ⟨b, off, rfl, hb, fun i hi => ?_⟩
      simp only [List.length_map, List.length_range] at hi
      have h1 := h i (by omega)
      rw [show ((⟨b, off, none⟩ : Addr).add i) = ⟨b, off + i, none⟩ from by simp [Addr.add]] at h1
      rw [h1.1, List.getElem?_map, List.getElem?_map, List.getElem?_range hi]
      simp only [Option.map_some, rv, List.length_take, h1.2.2.2.1, Nat.min_eq_left h1.2.1]
    · intro p hp
      obtain ⟨r, hr, rfl⟩ := List.mem_map.1 hp
      have hr := List.mem_range.1 hr
      obtain ⟨h1, h2, h3, h4, h5, h6, h7⟩ := h r (by omega)
      intro h0
      simp only [ints_len, List.length_take, h4] at h0
      cases hA : A r with
      | none => have := h6 hA; omega
      | some a' =>
        obtain ⟨b, off, spot⟩ := a'
        have hc := (h7 _ hA).2
        obtain ⟨rfl, hb⟩ := spot_none (hc 0 (by omega))
        refine ⟨b, off, by simp, hb, fun i hi => ?_⟩
        simp only [ints_len, List.length_take, h4] at hi
        have := hc i (by omega)
        rw [show ((⟨b, off, none⟩ : Addr).add i) = ⟨b, off + i, none⟩ from by simp [Addr.add]] at this
        rw [this, ints_get _ _ (by rw [List.length_take, h4]; exact hi), nth_take _ _ _ (by omega)]; rfl
  refine ⟨hlc, Nat.le_trans hlc hcm, _, by simp, hmat, fun p hp => ?_⟩
  obtain ⟨r, hr, rfl⟩ := List.mem_map.1 hp
  have hr := List.mem_range.1 hr
  obtain ⟨h1, h2, h3, h4, h5, h6, h7⟩ := h r (by omega)
  have h8 := hs r hr
  refine ⟨by simp only [List.length_take]; omega, h3, by simp only [List.length_take, h4]; omega, h6, fun x hx => ?_⟩
  have := h5 x (List.mem_of_mem_take hx)
  simp [Lit.wf, go_sem] at this
  have e1 : IntKind.i64.min = -9223372036854775808 := by decide
  have e2 : IntKind.i64.max = 9223372036854775807 := by decide
  omega
end Go.Proofs.Ytdabgibmbmhmdaa
