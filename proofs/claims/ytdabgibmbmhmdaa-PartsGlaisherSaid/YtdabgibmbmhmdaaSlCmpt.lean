/- slices.Compact of a call's own slice of ints, by the shelf's contract. -/
import Derived.Test.YtdabgibmbmhmdaaSrtN
namespace Go.Proofs.Ytdabgibmbmhmdaa
open Go.RowKit

theorem compact_le (l : List Int) : (Lib.compact l).length ≤ l.length := Lib.compact_length_le l
theorem compact_len (l : List Int) : (Lib.compact l).length = ((List.range l.length).filter (Lib.keeps l.toArray)).length := by
  unfold Lib.compact Lib.compactUpTo; rw [List.length_map]
theorem arr_nth (l : List Int) (i : Nat) (h : i < l.length) : l.toArray[i]! = nth l i := by simp [nth, h]
/-- two that are alike, one behind the other: fewer stay -/
theorem compact_lt (l : List Int) (m : Nat) (h0 : 0 < m) (hm : m < l.length) (e : nth l m = nth l (m - 1)) : (Lib.compact l).length < l.length := by
  rw [compact_len]
  have := (List.length_filter_lt_length_iff_exists (l := List.range l.length) (p := Lib.keeps l.toArray)).2 ⟨m, List.mem_range.2 hm, by
    rw [Lib.keeps_neg h0 (by rw [arr_nth l m hm, arr_nth l (m - 1) (by omega), e])]; simp⟩
  rwa [List.length_range] at this
theorem compact_same (l : List Int) (h : ∀ i, 0 < i → i < l.length → nth l i ≠ nth l (i - 1)) : Lib.compact l = l :=
  Lib.compact_all l fun j hj => by
    rcases Nat.eq_zero_or_pos j with rfl | h0
    · simp [Lib.keeps]
    · exact Lib.keeps_pos (by rw [arr_nth l j hj, arr_nth l (j - 1) (by omega)]; exact h j h0 hj)
def cmpRow (l : List Int) : List Int := Lib.compact l ++ List.replicate (l.length - (Lib.compact l).length) 0
theorem cmpRow_len (l : List Int) : (cmpRow l).length = l.length := by
  have := compact_le l
  unfold cmpRow; rw [List.length_append, List.length_replicate]; omega
theorem slCompactOwn {w0 : World} {L : List Ent} (l : List Int) (n cap : Nat) (ad : Option Addr) (w : World) (hF : Fr w0 w (⟨3, .slice ad n cap, ints l⟩ :: L)) (hn : n ≤ 1000000) :
    Calls Try.prog 49 #[.slice ad n cap] w fun e w' => e = .returned (.slice ad (Lib.compact l).length cap) ∧ Fr w0 w' (⟨3, .slice ad n cap, ints (cmpRow l)⟩ :: L) := by
  have hlen := hF.len
  rw [ints_len] at hlen
  cases ad with
  | none =>
    obtain ⟨rfl, rfl⟩ := hF.none rfl
    obtain rfl := List.eq_nil_of_length_eq_zero hlen.symm
    exact (Try.slices_Compact_int_empty none 0 w).mono fun e w' ⟨h1, h2⟩ => ⟨h1, by subst h2; exact hF⟩
  | some ad =>
    have hO := hF.os.own _ List.mem_cons_self
    rcases hO.elim with ⟨_, ⟨h, _⟩ | ⟨g, cur, h, _⟩⟩
    · cases h
    · cases h
      have hcell : ∀ j, j < l.length → w.cell? ⟨g, 0 + j, none⟩ = some (.int .i64 (l.getD j 0)) := fun j hj => by
        obtain ⟨g', e, _, c, _⟩ := hF.openI j hj
        cases e
        rw [Nat.zero_add]; exact c
      have hfz : ∀ j, j < n → w.frozen? ⟨g, 0 + j, none⟩ = false := fun j hj => by
        obtain ⟨g', e, _, _, z⟩ := hF.openI j (by omega)
        cases e
        rw [Nat.zero_add]; exact z
      have hH := Lib.holds_of_ints (w := w) (b := g) (off := 0) (n := n) (zs := l) (by omega) hcell hfz
      rw [List.take_of_length_le (by omega)] at hH
      subst hlen
      refine (Try.slices_Compact_int g 0 cap l w hH (by omega) hF.cap).mono ?_
      rintro e w' ⟨rfl, q, rfl⟩
      refine ⟨rfl, ?_⟩
      rw [Lib.putRow_eq_setCells (Value.int .i64) w g 0 l.toArray _ q hH (by have := cmpRow_len l; unfold cmpRow at this; simpa using this)]
      have h2 := Fr.setCellsAt (ints (cmpRow l)) [] (w.drewN q) (ints l) (by simpa using hF.drewN q) (by simp [ints_len, cmpRow_len])
      rw [List.nil_append] at h2
      exact h2
end Go.Proofs.Ytdabgibmbmhmdaa
