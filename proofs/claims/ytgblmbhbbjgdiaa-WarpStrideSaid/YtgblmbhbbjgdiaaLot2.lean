/- Contract of lottery.Lend. -/
import Derived.Test.YtgblmbhbbjgdiaaLot
namespace Go.Proofs.Ytgblmbhbbjgdiaa
open Go.RowKit

def lendL (l : List Int) (f t : Nat) (k : Int) : List Int := (l.set f (nth l f - k)).set t (nth (l.set f (nth l f - k)) t + k)
def LendOk (l : List Int) (f t k : Int) (f' t' : Nat) : Prop := f = f' ∧ t = t' ∧ f' < l.length ∧ t' < l.length ∧ 0 ≤ k ∧ k ≤ nth l f' ∧ nth (l.set f' (nth l f' - k)) t' + k ≤ 100
theorem lendL_len (l : List Int) (f t : Nat) (k : Int) : (lendL l f t k).length = l.length := by simp [lendL]
def LendBad (w : World) (e : Ending) (w' : World) : Prop := ∃ err : Int, (err = 1 ∨ err = 4 ∨ err = 9) ∧ e = .returned (.tuple #[.slice none 0 0, .int .i64 err]) ∧ Fr w w' []
def OneSl (l : List Int) (n : Nat) (err : Int) (w : World) (e : Ending) (w' : World) : Prop :=
  ∃ ad cp, e = .returned (.tuple #[.slice ad n cp, .int .i64 err]) ∧ n ≤ cp ∧ Fr w w' [⟨3, .slice ad n cp, ints l⟩]

theorem lend_cells {w0 w : World} {g n cap : Nat} {l : List Int} {L : List Ent} (hF : Fr w0 w (⟨3, .slice (some ⟨g, 0, none⟩) n cap, ints l⟩ :: L)) (f t : Nat) (k x y : Int)
    (hf : f < l.length) (ht : t < l.length) (hx : nth l f = x) (hy : nth (l.set f (x - k)) t = y) :
    w.cell? ⟨g, f, none⟩ = some (.int .i64 x) ∧ w.frozen? ⟨g, f, none⟩ = false ∧ (w.setCell ⟨g, f, none⟩ (.int .i64 (x - k))).cell? ⟨g, t, none⟩ = some (.int .i64 y) ∧
    (w.setCell ⟨g, f, none⟩ (.int .i64 (x - k))).frozen? ⟨g, t, none⟩ = false ∧
    ((w.setCell ⟨g, f, none⟩ (.int .i64 (x - k))).setCell ⟨g, t, none⟩ (.int .i64 (y + k))).cell? ⟨g, t, none⟩ = some (.int .i64 (y + k)) ∧
    Fr w0 ((w.setCell ⟨g, f, none⟩ (.int .i64 (x - k))).setCell ⟨g, t, none⟩ (.int .i64 (y + k))) (⟨3, .slice (some ⟨g, 0, none⟩) n cap, ints (lendL l f t k)⟩ :: L) := by
  obtain ⟨g1, e1, _, c1, z1⟩ := hF.openI f hf
  cases e1
  have h2 := hF.setInt f (x - k)
  obtain ⟨g2, e2, _, c2, z2⟩ := h2.openI t (by simpa using ht)
  cases e2
  have h3 := h2.setInt t (y + k)
  obtain ⟨g3, e3, _, c3, z3⟩ := h3.openI t (by simpa using ht)
  cases e3
  refine ⟨by rw [c1, hx], z1, by rw [c2, hy], z2, by rw [c3, nth_set _ _ _ _ (by simpa using ht), if_pos rfl], ?_⟩
  unfold lendL
  rw [hx, hy]
  exact h3

theorem isum_set : ∀ (l : List Int) (i : Nat) (v : Int), i < l.length → isum (l.set i v) = isum l - nth l i + v
  | [], _, _, h => by simp at h
  | x :: r, 0, v, _ => by simp [isum, nth]; omega
  | x :: r, i + 1, v, h => by
    rw [List.set_cons_succ, isum, isum, isum_set r i v (by simpa using h)]
    have : nth (x :: r) (i + 1) = nth r i := by simp [nth]
    rw [this]; omega
theorem lend_back (l : List Int) (f t k : Int) (f' t' : Nat) (hp : TkOk l) (h20 : ∀ j, j < l.length → nth l j ≤ 20) (hc : LendOk l f t k f' t') :
    TkOk (lendL l f' t' k) ∧ isum (lendL l f' t' k) = isum l ∧ LendOk (lendL l f' t' k) t f k t' f' ∧ lendL (lendL l f' t' k) t' f' k = l := by
  obtain ⟨e1, e2, hf, ht, h0, hk, h100⟩ := hc
  have n1 : ∀ j, nth (l.set f' (nth l f' - k)) j = if j = f' then nth l f' - k else nth l j := fun j => nth_set _ _ _ _ hf
  have n2 : ∀ j, nth (lendL l f' t' k) j = if j = t' then nth (l.set f' (nth l f' - k)) t' + k else nth (l.set f' (nth l f' - k)) j := fun j => nth_set _ _ _ _ (by simpa using ht)
  have n3 : ∀ j, nth ((lendL l f' t' k).set t' (nth (lendL l f' t' k) t' - k)) j = if j = t' then nth (lendL l f' t' k) t' - k else nth (lendL l f' t' k) j := fun j => nth_set _ _ _ _ (by rw [lendL_len]; exact ht)
  have n4 : ∀ j, nth (lendL (lendL l f' t' k) t' f' k) j = if j = f' then nth ((lendL l f' t' k).set t' (nth (lendL l f' t' k) t' - k)) f' + k else nth ((lendL l f' t' k).set t' (nth (lendL l f' t' k) t' - k)) j := fun j => nth_set _ _ _ _ (by rw [List.length_set, lendL_len]; exact hf)
  refine ⟨⟨by rw [lendL_len]; exact hp.1, fun j hj => ?_⟩, ?_, ⟨e2, e1, by rw [lendL_len]; exact ht, by rw [lendL_len]; exact hf, h0, ?_, ?_⟩, ?_⟩
  · rw [lendL_len] at hj
    rw [n2]
    have := hp.2 j hj
    have := hp.2 t' ht
    have := hp.2 f' hf
    have h1 := n1 t'
    split
    · split at h1 <;> omega
    · rw [n1]; split <;> omega
  · unfold lendL
    rw [isum_set _ _ _ (by simpa using ht), isum_set _ _ _ hf]; omega
  · rw [n2, if_pos rfl]
    have h1 := n1 t'
    have := hp.2 t' ht
    have := hp.2 f' hf
    split at h1 <;> omega
  · rw [n3, n2 t', if_pos rfl]
    by_cases e : f' = t'
    · subst e
      rw [if_pos rfl, n1, if_pos rfl]; have := h20 f' hf; omega
    · rw [if_neg e, n2, if_neg e, n1, if_pos rfl]; have := h20 f' hf; omega
  · refine ext_nth (by rw [lendL_len, lendL_len]) (fun j hj => ?_)
    rw [lendL_len, lendL_len] at hj
    rw [n4, n3, n3, n2, n2, n2]
    by_cases e : f' = t'
    · subst e
      by_cases ej : j = f'
      · subst ej; simp only [if_true, n1]; omega
      · simp only [if_neg ej, n1]
    · by_cases ej : j = f'
      · subst ej; simp only [if_true, if_neg e, n1]; omega
      · by_cases ej2 : j = t'
        · subst ej2; simp only [if_true, if_neg ej, n1]; omega
        · simp only [if_neg ej, if_neg ej2, n1]
end Go.Proofs.Ytgblmbhbbjgdiaa
