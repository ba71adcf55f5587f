/- Several of my texts in one: AtM. -/
import Derived.Test.YtbolgfiafbhicaaDoorDF11
/- Plain laws of rank.At. -/
namespace Go.Proofs.YtbolgfiafbhicaaDoor
open Go.RowKit

def dropAt (l : List Int) (d : Nat) : List Int := l.take d ++ l.drop (d + 1)
theorem dropAt_len (l : List Int) (d : Nat) (h : d < l.length) : (dropAt l d).length = l.length - 1 := by simp [dropAt]; omega
def atS : Nat → List Int → Nat → List Int
  | 0, _, _ => []
  | i + 1, left, k => nth left (k / facN i) :: atS i (dropAt left (k / facN i)) (k % facN i)
theorem atS_len : ∀ i left k, (atS i left k).length = i
  | 0, _, _ => rfl
  | i + 1, left, k => by rw [atS, List.length_cons, atS_len i]
theorem countP_dropAt (f : Int → Bool) (l : List Int) (d : Nat) (h : d < l.length) : (dropAt l d).countP f + (if f (nth l d) then 1 else 0) = l.countP f := by
  have e : l = l.take d ++ (nth l d :: l.drop (d + 1)) := by
    rw [show nth l d :: l.drop (d + 1) = l.drop d from by rw [List.drop_eq_getElem_cons h]; simp [nth, h], List.take_append_drop]
  conv => rhs; rw [e]
  unfold dropAt
  rw [List.countP_append, List.countP_append, List.countP_cons]
  by_cases hf : f (nth l d) <;> simp [hf] <;> omega
theorem div_lt {k i : Nat} (h : k < facN (i + 1)) : k / facN i < i + 1 := by
  rw [facN] at h
  exact Nat.div_lt_of_lt_mul (by rw [Nat.mul_comm]; exact h)
theorem atS_count (f : Int → Bool) : ∀ i left k, left.length = i → k < facN i → (atS i left k).countP f = left.countP f
  | 0, left, k, hl, _ => by rw [List.eq_nil_of_length_eq_zero hl]; rfl
  | i + 1, left, k, hl, hk => by
    have hd := div_lt hk
    have hc := countP_dropAt f left (k / facN i) (by omega)
    rw [atS, List.countP_cons, atS_count f i _ _ (by rw [dropAt_len _ _ (by omega)]; omega) (Nat.mod_lt _ (facN_pos i))]
    omega
def Incr (l : List Int) : Prop := ∀ i j, i < j → j < l.length → nth l i < nth l j
theorem dropAt_nth (l : List Int) (d i : Nat) (h : d < l.length) : nth (dropAt l d) i = if i < d then nth l i else nth l (i + 1) := by
  unfold dropAt nth
  rw [List.getD_eq_getElem?_getD, List.getElem?_append, List.length_take, Nat.min_eq_left (by omega)]
  by_cases hi : i < d
  · rw [if_pos hi, if_pos hi, List.getElem?_take_of_lt hi, List.getD_eq_getElem?_getD]
  · rw [if_neg hi, if_neg hi, List.getElem?_drop, List.getD_eq_getElem?_getD, show d + 1 + (i - d) = i + 1 from by omega]
theorem Incr.dropAt {l : List Int} (h : Incr l) (d : Nat) (hd : d < l.length) : Incr (dropAt l d) := fun i j hij hj => by
  rw [dropAt_len _ _ hd] at hj
  rw [dropAt_nth _ _ _ hd, dropAt_nth _ _ _ hd]
  split <;> split <;> exact h _ _ (by omega) (by omega)
theorem Incr.less {l : List Int} (h : Incr l) : ∀ d, d < l.length → lessC (nth l d) l = d := by
  intro d hd
  have h1 : lessC (nth l d) (l.take d) = (l.take d).length := by
    unfold lessC
    rw [List.countP_eq_length]
    intro y hy
    obtain ⟨i, hi, e2⟩ := List.getElem_of_mem hy
    rw [List.length_take] at hi
    rw [List.getElem_take] at e2
    have := h i d (by omega) hd
    have e3 : nth l i = y := by rw [← e2]; simp [nth, show i < l.length from by omega]
    simp; omega
  have h2 : lessC (nth l d) (l.drop d) = 0 := by
    unfold lessC
    rw [List.countP_eq_zero]
    intro y hy
    obtain ⟨i, hi, e2⟩ := List.getElem_of_mem hy
    rw [List.length_drop] at hi
    rw [List.getElem_drop] at e2
    have e3 : nth l (d + i) = y := by rw [← e2]; simp [nth, show d + i < l.length from by omega]
    rcases Nat.eq_zero_or_pos i with h0 | h0
    · subst h0; simp at e3 ⊢; omega
    · have := h d (d + i) (by omega) (by omega); simp; omega
  have h3 : lessC (nth l d) l = lessC (nth l d) (l.take d) + lessC (nth l d) (l.drop d) := by rw [← lessC_app, List.take_append_drop]
  rw [h3, h1, h2, List.length_take]; omega
theorem atS_code : ∀ i left k, left.length = i → k < facN i → Incr left → ofC (codeL (atS i left k)) = k
  | 0, left, k, _, hk, _ => by
    have : k = 0 := by rw [facN] at hk; omega
    subst this; rfl
  | i + 1, left, k, hl, hk, hi => by
    have hd := div_lt hk
    have hdl : k / facN i < left.length := by omega
    have hlen : (dropAt left (k / facN i)).length = i := by rw [dropAt_len _ _ hdl]; omega
    have hm := Nat.mod_lt k (facN_pos i)
    rw [atS, codeL, ofC, codeL_len, atS_len, atS_code i _ _ hlen hm (hi.dropAt _ hdl)]
    have e1 : lessC (nth left (k / facN i)) (atS i (dropAt left (k / facN i)) (k % facN i)) = k / facN i := by
      unfold lessC
      rw [atS_count _ i _ _ hlen hm]
      have h1 := countP_dropAt (fun y => decide (y < nth left (k / facN i))) left (k / facN i) hdl
      have h2 := hi.less _ hdl
      unfold lessC at h2
      simp at h1
      omega
    rw [e1, ← Int.natCast_mul, ← Int.natCast_add, Nat.mul_comm, Nat.div_add_mod]
def upTo (n : Nat) : List Int := (List.range n).map fun i : Nat => (i : Int)
theorem upTo_len (n : Nat) : (upTo n).length = n := by simp [upTo]
theorem upTo_nth (n i : Nat) (h : i < n) : nth (upTo n) i = i := by simp [nth, upTo, h]
theorem upTo_incr (n : Nat) : Incr (upTo n) := fun i j hij hj => by
  rw [upTo_len] at hj
  rw [upTo_nth _ _ (by omega), upTo_nth _ _ hj]; omega
theorem at_isP (n k : Nat) (hk : k < facN n) : IsP (atS n (upTo n) k) := by
  have hc := fun f => atS_count f n (upTo n) k (upTo_len n) hk
  refine ⟨fun i hi => ?_, ?_⟩
  · have hmem : nth (atS n (upTo n) k) i ∈ upTo n := by
      have h1 := hc (fun y => y == nth (atS n (upTo n) k) i)
      have h2 : 0 < (atS n (upTo n) k).countP (fun y => y == nth (atS n (upTo n) k) i) := List.countP_pos_iff.2 ⟨_, nth_mem _ i hi, by simp⟩
      rw [h1] at h2
      obtain ⟨y, hy, e⟩ := List.countP_pos_iff.1 h2
      simp at e
      rw [← e]; exact hy
    rw [atS_len] at hi ⊢
    obtain ⟨y, hy⟩ : ∃ y, nth (atS n (upTo n) k) i = y := ⟨_, rfl⟩
    rw [hy] at hmem ⊢
    simp only [upTo, List.mem_map, List.mem_range] at hmem
    obtain ⟨v, hv, e⟩ := hmem
    omega
  · have key : ∀ i j, i < j → j < (atS n (upTo n) k).length → nth (atS n (upTo n) k) i ≠ nth (atS n (upTo n) k) j := by
      intro i j hij hj e
      obtain ⟨p, hp⟩ : ∃ p, atS n (upTo n) k = p := ⟨_, rfl⟩
      rw [hp] at hj e hc
      have h2 : 2 ≤ p.countP (fun y => y == nth p j) := by
        have c1 : 0 < (p.take j).countP (fun y => y == nth p j) := List.countP_pos_iff.2 ⟨nth p i, by
          have := nth_mem (p.take j) i (by rw [List.length_take]; omega)
          rwa [nth_take _ _ _ hij] at this, by simp [e]⟩
        have c2 : 0 < (p.drop j).countP (fun y => y == nth p j) := List.countP_pos_iff.2 ⟨nth p j, by
          have := nth_mem (p.drop j) 0 (by rw [List.length_drop]; omega)
          rwa [nth_drop, Nat.add_zero] at this, by simp⟩
        have : p.countP (fun y => y == nth p j) = (p.take j).countP (fun y => y == nth p j) + (p.drop j).countP (fun y => y == nth p j) := by
          rw [← List.countP_append, List.take_append_drop]
        omega
      rw [hc] at h2
      have h3 : ∀ m (v : Int), (upTo m).countP (fun y => y == v) ≤ 1 ∧ ((upTo m).countP (fun y => y == v) = 1 → v < m) := by
        intro m v
        induction m with
        | zero => simp [upTo]
        | succ m ih =>
          have : upTo (m + 1) = upTo m ++ [(m : Int)] := by simp [upTo, List.range_succ]
          rw [this, List.countP_append, List.countP_singleton]
          obtain ⟨c, hc'⟩ : ∃ c, (upTo m).countP (fun y => y == v) = c := ⟨_, rfl⟩
          rw [hc'] at ih ⊢
          by_cases hv : (m : Int) = v
          · rw [if_pos (by simpa using hv)]
            have : c ≠ 1 := fun h => by have := ih.2 h; omega
            exact ⟨by omega, fun _ => by omega⟩
          · rw [if_neg (by simpa using hv)]
            exact ⟨by omega, fun h => by have := ih.2 (by omega); omega⟩
      have := (h3 n (nth p j)).1
      omega
    intro i j hi hj e
    rcases Nat.lt_trichotomy i j with h | h | h
    · exact absurd e (key i j h hj)
    · exact h
    · exact absurd e.symm (key j i h hi)
/-- an order is told by its number -/
theorem at_of {p : List Int} (h : IsP p) (n : Nat) (hn : p.length = n) (k : Nat) (hk : ofC (codeL p) = k) : atS n (upTo n) k = p := by
  have hb := ofC_bd (codeL p) (codeL_ok p)
  rw [codeL_len, hn, hk] at hb
  have hk2 : k < facN n := by omega
  have h1 := at_isP n k hk2
  have h2 := atS_code n (upTo n) k (upTo_len n) hk2 (upTo_incr n)
  refine code_inj h1 h (by rw [atS_len, hn]) (ofC_inj _ _ (codeL_ok _) (codeL_ok _) (by rw [codeL_len, codeL_len, atS_len, hn]) (by rw [h2, hk]))
end Go.Proofs.YtbolgfiafbhicaaDoor
