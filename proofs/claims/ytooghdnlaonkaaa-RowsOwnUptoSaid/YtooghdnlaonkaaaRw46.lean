/- Several of my texts in one: UptoB, MatsU. -/
import Derived.Test.YtooghdnlaonkaaaRows
import Derived.Test.YtooghdnlaonkaaaRw01
import Derived.SizedLaws
import Derived.ChangeArms
import Derived.ProofKit
import Derived.OpenShut
import Derived.Lib.SmallJoins
import Derived.Test.YtooghdnlaonkaaaRw45
/- How long a slice may be that came in, where all that came in is of small bulk. -/
namespace Go.Proofs.Ytooghdnlaonkaaa
open Go.ChangeShapes Go.WideShapes Go.ChangeAt Go.RowKit Go.Joins

theorem bulk_one {H : Type} (d : DataW H) : 1 ≤ Rows.uptoBulk d := by
  cases d with
  | lit l => cases l <;> simp [Rows.uptoBulk]
  | nil => simp [Rows.uptoBulk]
  | ptr d => simp [Rows.uptoBulk]
  | slice elems spare => simp [Rows.uptoBulk]
  | agg parts => simp [Rows.uptoBulk]
  | iface t d => simp [Rows.uptoBulk]
  | map entries => simp [Rows.uptoBulk]
  | held h => simp [Rows.uptoBulk]
theorem bulk_part {H : Type} {d : DataW H} : ∀ {l : List (DataW H)}, d ∈ l → Rows.uptoBulk d ≤ Rows.uptoBulkAll l
  | [], h => by cases h
  | x :: r, h => by
    rw [Rows.uptoBulkAll]
    rcases List.mem_cons.1 h with rfl | h
    · omega
    · have := bulk_part h; omega
theorem bulk_len {H : Type} : ∀ l : List (DataW H), l.length ≤ Rows.uptoBulkAll l
  | [] => by simp
  | x :: r => by have := bulk_one x; have := bulk_len r; rw [Rows.uptoBulkAll, List.length_cons]; omega
section
variable {H : Type} {enc : TypeId × Value → H} {P : Program} {W : World} {base : Nat} {sp : Nat → Bool} {held : Bool}
theorem upto_len {ds : List (DataW H)} (hk : Rows.uptoSmall H ds = true) {t e : TypeId} {d : DataW H} {p : List MemPlace} {a : Option Addr} {len cap : Nat} (hd : d ∈ ds) (hu : P.underlying t = some (.slice e))
    (hf : DataW.Trod enc P W base sp held t (.slice a len cap) d p) : len ≤ 1048576 := by
  obtain ⟨fuel, hf⟩ := hf
  have hall : Rows.uptoBulkAll ds ≤ 1048576 := of_decide_eq_true hk
  have hpart := bulk_part hd
  rcases DataW.trod_slice hu (show DataW.trod enc P W base sp held fuel t [.slice a len cap] = some (d, p) by simpa [Value.cells] using hf) with ⟨hc, _⟩ | ⟨x, l, c, elems, rest, n, _, hc, hx, _, _, _, hl, _⟩
  · simp only [List.cons.injEq, Value.slice.injEq, and_true] at hc
    omega
  · simp only [List.cons.injEq, Value.slice.injEq, and_true] at hc
    obtain ⟨-, rfl, -⟩ := hc
    simp only [Prod.mk.injEq] at hx
    obtain ⟨rfl, -⟩ := hx
    rw [Rows.uptoBulk] at hpart
    have h1 := bulk_len (elems.map (·.1))
    rw [List.length_map, hl] at h1
    omega
end
end Go.Proofs.Ytooghdnlaonkaaa
/- What the Upto frame of a law tells of a slice of slices of ints that came in. -/
namespace Go.Proofs.Ytooghdnlaonkaaa
open Go.RowKit Go.ChangeShapes Go.WideShapes Go.Deep

def IsMatU (w : World) (a : Option Addr) (len cap : Nat) : Prop :=
  len ≤ cap ∧ len ≤ 1048576 ∧ (a = none → cap = 0 ∧ len = 0) ∧ ∃ R : List Rw, R.length = len ∧ Rm w a R ∧ ∀ p ∈ R, p.2.2.length ≤ 1048576
theorem IsMatU.nil (w : World) : IsMatU w none 0 0 := ⟨Nat.le_refl _, Nat.zero_le _, fun _ => ⟨rfl, rfl⟩, [], rfl, ⟨Sa.nil _ _, fun p hp => by simp at hp⟩, fun p hp => by simp at hp⟩
theorem upto_bulk {H : Type} {ds : List (DataW H)} (hk : Rows.uptoSmall H ds = true) {d : DataW H} (hd : d ∈ ds) : Rows.uptoBulk d ≤ 1048576 := by
  have hall : Rows.uptoBulkAll ds ≤ 1048576 := of_decide_eq_true hk
  have := bulk_part hd
  omega
theorem bulk_two {H : Type} {a b : DataW H} (h : Rows.uptoBulk (.agg [a, b] : DataW H) ≤ 1048576) : Rows.uptoBulk a ≤ 1048576 ∧ Rows.uptoBulk b ≤ 1048576 := by
  rw [Rows.uptoBulk, Rows.uptoBulkAll, Rows.uptoBulkAll] at h
  omega
theorem isMatU_of {H : Type} {w : World} {a : Addr} {len cap : Nat} {A : Nat → Option Addr} {L C : Nat → Nat} {Z : Nat → List Int} (hlc : len ≤ cap)
    (h : ∀ r, r < cap → w.cell? (a.add r) = some (.slice (A r) (L r) (C r)) ∧ L r ≤ C r ∧ C r ≤ maxLen ∧ (Z r).length = C r ∧ (∀ n ∈ Z r, (Lit.int .i64 n).wf = true) ∧ (A r = none → C r = 0) ∧
        ∀ a', A r = some a' → 0 ≤ a'.block ∧ ∀ c, c < C r → w.cell? (a'.add c) = some (.int .i64 ((Z r).getD c 0)))
    {d : DataW H} {sp : List (DataW H)} (hd : d = .slice ((List.range len).map fun r => intRow .i64 (A r) (L r) (Z r)) sp) (hb : Rows.uptoBulk d ≤ 1048576) : IsMatU w (some a) len cap := by
  subst hd
  rw [Rows.uptoBulk] at hb
  have hs : ∀ r, r < len → L r ≤ 1048576 := fun r hr => by
    have hm : (intRow .i64 (A r) (L r) (Z r) : DataW H) ∈ (List.range len).map fun r => intRow .i64 (A r) (L r) (Z r) := List.mem_map.2 ⟨r, List.mem_range.2 hr, rfl⟩
    have h1 := bulk_part hm
    obtain ⟨-, h2, -, h4, -, h6, -⟩ := h r (by omega)
    cases hA : A r with
    | none => have := h6 hA; omega
    | some a' =>
      have e2 : (intRow .i64 (A r) (L r) (Z r) : DataW H) = .slice (lits .i64 ((Z r).take (L r))) (lits .i64 ((Z r).drop (L r))) := by unfold intRow; rw [hA]
      rw [e2, Rows.uptoBulk] at h1
      have h3 := bulk_len (lits .i64 ((Z r).take (L r)) : List (DataW H))
      have e1 : (lits .i64 ((Z r).take (L r)) : List (DataW H)).length = L r := by simp [lits]; omega
      omega
  have hlen : len ≤ 1048576 := by
    have h1 := bulk_len ((List.range len).map fun r => (intRow .i64 (A r) (L r) (Z r) : DataW H))
    rw [List.length_map, List.length_range] at h1
    omega
  have hmat : Rm w (some a) ((List.range len).map fun r => (A r, C r, (Z r).take (L r))) := by
    refine ⟨?_, ?_⟩
    · intro h0
      simp only [List.length_map, List.length_range] at h0
      obtain ⟨b, off, spot⟩ := a
      obtain ⟨rfl, hb⟩ := spot_none (h 0 (by omega)).1
      refine ⟨b, off, rfl, hb, fun i hi => ?_⟩
      simp only [List.length_map, List.length_range] at hi
      have h1 := h i (by omega)
      rw [show ((⟨b, off, none⟩ : Addr).add i) = ⟨b, off + i, none⟩ from by simp [Addr.add]] at h1
      rw [h1.1, List.getElem?_map, List.getElem?_map, List.getElem?_range hi]
      simp only [Option.map_some, rv, List.length_take, h1.2.2.2.1, Nat.min_eq_left h1.2.1]
    · intro p hp
      obtain ⟨r, hr, rfl⟩ := List.mem_map.1 hp
      have hr := List.mem_range.1 hr
      obtain ⟨h1, h2, h3, h4, h5, h6, h7⟩ := h r (by omega)
      intro h0
      simp only [ints_len, List.length_take, h4] at h0
      cases hA : A r with
      | none => have := h6 hA; omega
      | some a' =>
        obtain ⟨b, off, spot⟩ := a'
        have hc := (h7 _ hA).2
        obtain ⟨rfl, hb⟩ := spot_none (hc 0 (by omega))
        refine ⟨b, off, by simp, hb, fun i hi => ?_⟩
        simp only [ints_len, List.length_take, h4] at hi
        have := hc i (by omega)
        rw [show ((⟨b, off, none⟩ : Addr).add i) = ⟨b, off + i, none⟩ from by simp [Addr.add]] at this
        rw [this, ints_get _ _ (by rw [List.length_take, h4]; exact hi), nth_take _ _ _ (by omega)]; rfl
  refine ⟨hlc, hlen, (fun e => by cases e), _, by simp, hmat, fun p hp => ?_⟩
  obtain ⟨r, hr, rfl⟩ := List.mem_map.1 hp
  have hr := List.mem_range.1 hr
  have := hs r hr
  simp only [List.length_take]; omega
end Go.Proofs.Ytooghdnlaonkaaa
