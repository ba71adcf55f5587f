/- Several of my texts in one: TapeM. -/
import Derived.Test.YtooghdnlaonkaaaPw02
/- Plain laws of tapes. -/
namespace Go.Proofs.Ytooghdnlaonkaaa
open Go.RowKit

def byts (l : List Int) : List Value := l.map (Value.int .u8)
theorem byts_len (l : List Int) : (byts l).length = l.length := by simp [byts]
theorem byts_one (l : List Int) : ∀ v ∈ byts l, v.oneCell' = true := ints_oneCell .u8 l
theorem byts_get (l : List Int) (i : Nat) (h : i < l.length) : (byts l)[i]? = some (.int .u8 (nth l i)) := by simp [byts, nth, h]
theorem byts_take (l : List Int) (k : Nat) : (byts l).take k = byts (l.take k) := by simp [byts, List.map_take]
theorem byts_drop (l : List Int) (k : Nat) : (byts l).drop k = byts (l.drop k) := by simp [byts, List.map_drop]
theorem byts_app (a b : List Int) : byts a ++ byts b = byts (a ++ b) := by simp [byts]
theorem byts_snoc (l : List Int) (x : Int) : byts l ++ [.int .u8 x] = byts (l ++ [x]) := by simp [byts]
theorem Sa.byt {w : World} {a : Option Addr} {l : List Int} (h : Sa w a (byts l)) (i : Nat) (hi : i < l.length) : ∃ b off, a = some ⟨b, off, none⟩ ∧ b < w.heap.size ∧ w.cell? ⟨b, off + i, none⟩ = some (.int .u8 (nth l i)) := by
  obtain ⟨b, off, e, hb, hc⟩ := h.at i (by rw [byts_len]; exact hi)
  exact ⟨b, off, e, hb, by rw [hc, byts_get l i hi]⟩
theorem IsRow.saK {k : IntKind} {w : World} {a : Option Addr} {len cap : Nat} {zs : List Int} (h : IsRow k w a len cap zs) :
    Sa w a ((zs.take len).map (Value.int k)) ∧ (zs.take len).length = len ∧ len ≤ maxLen ∧ (∀ x ∈ zs.take len, (Lit.int k x).wf = true) ∧ len ≤ cap ∧ (a = none → cap = 0 ∧ len = 0) := by
  rcases h with ⟨rfl, rfl, rfl, rfl⟩ | ⟨x, rfl, h1, h2, h3, h4, h5⟩
  · exact ⟨Sa.nil _ _, rfl, by omega, by simp, by omega, fun _ => ⟨rfl, rfl⟩⟩
  · have hl : (zs.take len).length = len := by rw [List.length_take]; omega
    refine ⟨fun h0 => ?_, hl, by omega, fun y hy => h5 y (List.mem_of_mem_take hy), h1, fun e => by cases e⟩
    rw [List.length_map, hl] at h0
    have hz := h4 0 (by omega)
    obtain ⟨b, off, spot⟩ := x
    have hs : spot = none := by
      cases spot with
      | none => rfl
      | some s =>
        unfold World.cell? at hz
        simp only [Addr.add] at hz
        split at hz
        · simp at hz
        · cases hz
    subst hs
    refine ⟨b, off, rfl, ?_, fun i hi => ?_⟩
    · unfold World.cell? at hz
      simp only [Addr.add] at hz
      split at hz
      · next hq => exact (Array.getElem?_eq_some_iff.1 hq).1
      · cases hz
    · rw [List.length_map, hl] at hi
      have := h4 i (by omega)
      rw [show ((⟨b, off, none⟩ : Addr).add i) = ⟨b, off + i, none⟩ from by simp [Addr.add]] at this
      rw [this]
      have hi2 : i < (zs.take len).length := by omega
      rw [List.getElem?_map, List.getElem?_eq_getElem hi2, Option.map_some, List.getElem_take]
      congr 2
      rw [List.getD_eq_getElem?_getD, List.getElem?_eq_getElem (by omega)]; rfl

/-! draws -/
def bitsF (n : Nat) : Nat → Nat → Nat
  | 0, k => k
  | f + 1, k => if 2 ^ k < n then bitsF n f (k + 1) else k
def bitsN (n : Nat) : Nat := bitsF n 10 0
theorem bitsF_spec (n : Nat) : ∀ f k, n ≤ 2 ^ (k + f) → n ≤ 2 ^ bitsF n f k ∧ k ≤ bitsF n f k ∧ bitsF n f k ≤ k + f ∧ ∀ j, k ≤ j → j < bitsF n f k → 2 ^ j < n
  | 0, k, h => ⟨by rw [bitsF]; simpa using h, Nat.le_refl _, Nat.le_refl _, fun j h1 h2 => by rw [bitsF] at h2; omega⟩
  | f + 1, k, h => by
    by_cases h1 : 2 ^ k < n
    · rw [bitsF, if_pos h1]
      obtain ⟨a, b, c, d⟩ := bitsF_spec n f (k + 1) (by rw [show k + 1 + f = k + (f + 1) from by omega]; exact h)
      refine ⟨a, by omega, by omega, fun j h2 h3 => ?_⟩
      by_cases e : j = k
      · subst e; exact h1
      · exact d j (by omega) h3
    · rw [bitsF, if_neg h1]
      exact ⟨by omega, Nat.le_refl _, by omega, fun j h2 h3 => by omega⟩
theorem bitsN_spec (n : Nat) (h : n ≤ 1024) : n ≤ 2 ^ bitsN n ∧ bitsN n ≤ 10 ∧ ∀ j, j < bitsN n → 2 ^ j < n := by
  obtain ⟨a, b, c, d⟩ := bitsF_spec n 10 0 (by simpa using h)
  exact ⟨a, by unfold bitsN; omega, fun j hj => d j (by omega) hj⟩
def valL (l : List Int) : Int := l.foldl (fun x b => 2 * x + b) 0
theorem valL_snoc (l : List Int) (b : Int) : valL (l ++ [b]) = 2 * valL l + b := by simp [valL]
def Bit01 (l : List Int) : Prop := ∀ x ∈ l, 0 ≤ x ∧ x ≤ 1
theorem Bit01.take {l : List Int} (h : Bit01 l) (k : Nat) : Bit01 (l.take k) := fun x hx => h x (List.mem_of_mem_take hx)
theorem Bit01.drop {l : List Int} (h : Bit01 l) (k : Nat) : Bit01 (l.drop k) := fun x hx => h x (List.mem_of_mem_drop hx)
theorem Bit01.app {l m : List Int} (h : Bit01 l) (k : Bit01 m) : Bit01 (l ++ m) := fun x hx => by
  rcases List.mem_append.1 hx with hx | hx
  · exact h x hx
  · exact k x hx
theorem valL_bd : ∀ (k : Nat) (l : List Int), Bit01 l → k ≤ l.length → 0 ≤ valL (l.take k) ∧ valL (l.take k) < ((2 ^ k : Nat) : Int)
  | 0, l, _, _ => by simp [valL]
  | k + 1, l, h, hk => by
    have ih := valL_bd k l h (by omega)
    have := h (nth l k) (nth_mem l k (by omega))
    rw [take_nth l k (by omega), valL_snoc, Nat.pow_succ]
    generalize 2 ^ k = P at *
    omega
/-- a draw: the rest of the tape, how far it has come -/
def drawF (k : Nat) (n : Int) : Nat → List Int → Nat → Option (Int × Nat)
  | 0, _, _ => none
  | f + 1, r, at' => if k ≤ r.length then (if valL (r.take k) < n then some (valL (r.take k), at' + k) else drawF k n f (r.drop k) (at' + k)) else none
theorem drawF_fuel (k : Nat) (n : Int) (hk : 0 < k) : ∀ f g r a, r.length < f → r.length < g → drawF k n f r a = drawF k n g r a
  | 0, _, _, _, h, _ => by omega
  | _ + 1, 0, _, _, _, h => by omega
  | f + 1, g + 1, r, a, h1, h2 => by
    rw [drawF, drawF]
    by_cases hl : k ≤ r.length
    · rw [if_pos hl, if_pos hl, drawF_fuel k n hk f g (r.drop k) (a + k) (by rw [List.length_drop]; omega) (by rw [List.length_drop]; omega)]
    · rw [if_neg hl, if_neg hl]
def drawR (k : Nat) (n : Int) (r : List Int) (a : Nat) : Option (Int × Nat) := drawF k n (r.length + 1) r a
theorem drawR_yes (k : Nat) (n : Int) (r : List Int) (a : Nat) (h : k ≤ r.length) (h2 : valL (r.take k) < n) : drawR k n r a = some (valL (r.take k), a + k) := by
  rw [drawR, drawF, if_pos h, if_pos h2]
theorem drawR_no (k : Nat) (n : Int) (r : List Int) (a : Nat) (hk : 0 < k) (h : k ≤ r.length) (h2 : ¬ valL (r.take k) < n) : drawR k n r a = drawR k n (r.drop k) (a + k) := by
  rw [drawR, drawF, if_pos h, if_neg h2, drawR]
  exact drawF_fuel k n hk _ _ _ _ (by rw [List.length_drop]; omega) (by omega)
theorem drawR_short (k : Nat) (n : Int) (r : List Int) (a : Nat) (h : ¬ k ≤ r.length) : drawR k n r a = none := by
  rw [drawR, drawF, if_neg h]
/-- what a draw has used is enough, and no less is -/
theorem draw_on (k : Nat) (n : Int) (hk : 0 < k) (m : List Int) : ∀ (d : Nat) (r : List Int) (a : Nat) (v : Int) (u : Nat), r.length ≤ d → drawR k n r a = some (v, u) →
    ∃ e, u = a + e ∧ 0 < e ∧ e ≤ r.length ∧ v < n ∧ drawR k n (r.take e ++ m) a = some (v, u) ∧ drawR k n (r.take (e - 1)) a = none
  | d, r, a, v, u, hd, h => by
    by_cases hl : k ≤ r.length
    · by_cases hv : valL (r.take k) < n
      · rw [drawR_yes k n r a hl hv] at h
        simp only [Option.some.injEq, Prod.mk.injEq] at h
        obtain ⟨rfl, rfl⟩ := h
        refine ⟨k, rfl, hk, hl, hv, ?_, ?_⟩
        · have e : (r.take k ++ m).take k = r.take k := by
            rw [List.take_append, List.take_take, Nat.min_self, List.length_take, Nat.min_eq_left hl, Nat.sub_self]; simp
          rw [drawR_yes k n _ a (by rw [List.length_append, List.length_take]; omega) (by rw [e]; exact hv), e]
        · exact drawR_short k n _ a (by rw [List.length_take]; omega)
      · rw [drawR_no k n r a hk hl hv] at h
        cases d with
        | zero => omega
        | succ d =>
          obtain ⟨e, h1, h2, h3, h4, h5, h6⟩ := draw_on k n hk m d (r.drop k) (a + k) v u (by rw [List.length_drop]; omega) h
          rw [List.length_drop] at h3
          have t1 : ∀ j (m : List Int), (r.take (k + j) ++ m).take k = r.take k := fun j m => by
            rw [List.take_append, List.take_take, Nat.min_eq_left (by omega), List.length_take, show k - min (k + j) r.length = 0 from by omega]; simp
          have t2 : ∀ j (m : List Int), (r.take (k + j) ++ m).drop k = (r.drop k).take j ++ m := fun j m => by
            rw [List.drop_append, List.length_take, show k - min (k + j) r.length = 0 from by omega, List.drop_take, show k + j - k = j from by omega]; rfl
          refine ⟨k + e, by omega, by omega, by omega, h4, ?_, ?_⟩
          · rw [drawR_no k n _ a hk (by rw [List.length_append, List.length_take]; omega) (by rw [t1]; exact hv), t2]; exact h5
          · have q1 := t1 (e - 1) []
            have q2 := t2 (e - 1) []
            rw [List.append_nil] at q1 q2
            rw [List.append_nil] at q2
            rw [show k + e - 1 = k + (e - 1) from by omega, drawR_no k n _ a hk (by rw [List.length_take]; omega) (by rw [q1]; exact hv), q2]; exact h6
    · rw [drawR_short k n r a hl] at h; cases h
theorem drawR_at (k : Nat) (n : Int) : ∀ (d : Nat) (r : List Int) (a b : Nat), r.length ≤ d → drawR k n r (a + b) = (drawR k n r b).map (fun p => (p.1, a + p.2))
  | d, r, a, b, hd => by
    by_cases hl : k ≤ r.length
    · by_cases hv : valL (r.take k) < n
      · rw [drawR_yes k n r _ hl hv, drawR_yes k n r _ hl hv]; simp; omega
      · by_cases hk : 0 < k
        · rw [drawR_no k n r _ hk hl hv, drawR_no k n r _ hk hl hv]
          cases d with
          | zero => omega
          | succ d => rw [show a + b + k = a + (b + k) from by omega]; exact drawR_at k n d (r.drop k) a (b + k) (by rw [List.length_drop]; omega)
        · obtain rfl : k = 0 := by omega
          have z : ∀ f x, drawF 0 n f r x = none := by
            intro f
            induction f with
            | zero => intro x; rfl
            | succ f ih =>
              intro x
              rw [drawF, if_pos hl, if_neg hv, List.drop_zero]; exact ih _
          rw [drawR, drawR, z, z]; rfl
    · rw [drawR_short k n r _ hl, drawR_short k n r _ hl]; rfl
end Go.Proofs.Ytooghdnlaonkaaa
