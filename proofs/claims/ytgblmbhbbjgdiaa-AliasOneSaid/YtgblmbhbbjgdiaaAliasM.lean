/- Plain laws of alias tables (Walker, Vose). -/
import Derived.Test.YtgblmbhbbjgdiaaArr4
namespace Go.Proofs.Ytgblmbhbbjgdiaa
open Go.RowKit

def sumA (f : Nat → Int) : Nat → Int
  | 0 => 0
  | k + 1 => sumA f k + f k
theorem sumA_congr {f g : Nat → Int} : ∀ n, (∀ t, t < n → f t = g t) → sumA f n = sumA g n
  | 0, _ => rfl
  | n + 1, h => by rw [sumA, sumA, sumA_congr n (fun t ht => h t (by omega)), h n (by omega)]
theorem sumA_upd {f g : Nat → Int} (s : Nat) : ∀ n, (∀ t, t < n → t ≠ s → g t = f t) → sumA g n = sumA f n + if s < n then g s - f s else 0
  | 0, _ => by simp [sumA]
  | n + 1, h => by
    rw [sumA, sumA, sumA_upd s n (fun t ht => h t (by omega))]
    by_cases e : n = s
    · subst e; rw [if_neg (by omega), if_pos (by omega)]; omega
    · rw [h n (by omega) e]
      by_cases h2 : s < n
      · rw [if_pos h2, if_pos (by omega)]; omega
      · rw [if_neg h2, if_neg (by omega)]; omega
theorem sumA_le {f g : Nat → Int} : ∀ n, (∀ t, t < n → f t ≤ g t) → sumA f n ≤ sumA g n
  | 0, _ => Int.le_refl _
  | n + 1, h => by
    have := sumA_le n (fun t ht => h t (by omega))
    have := h n (by omega)
    rw [sumA, sumA]; omega
theorem sumA_zero : ∀ n, sumA (fun _ => 0) n = 0
  | 0 => rfl
  | n + 1 => by rw [sumA, sumA_zero n]; rfl
theorem sumA_nn {f : Nat → Int} (n : Nat) (h : ∀ t, t < n → 0 ≤ f t) : 0 ≤ sumA f n := by
  have := sumA_le (f := fun _ => 0) (g := f) n h
  rwa [sumA_zero] at this
theorem sumA_ge {f : Nat → Int} : ∀ n, (∀ t, t < n → 0 ≤ f t) → ∀ s, s < n → f s ≤ sumA f n
  | 0, _, s, hs => by omega
  | n + 1, h, s, hs => by
    have h0 := sumA_nn n (fun t ht => h t (by omega))
    have hn := h n (by omega)
    rw [sumA]
    by_cases e : s = n
    · subst e; omega
    · have := sumA_ge n (fun t ht => h t (by omega)) s (by omega); omega
theorem sumA_mul (c : Int) (f : Nat → Int) : ∀ n, sumA (fun t => c * f t) n = c * sumA f n
  | 0 => by simp [sumA]
  | n + 1 => by rw [sumA, sumA, sumA_mul c f n, Int.mul_add]
theorem sumA_one : ∀ n : Nat, sumA (fun _ => 1) n = n
  | 0 => rfl
  | n + 1 => by rw [sumA, sumA_one n]; rfl
theorem sumA_bd {f : Nat → Int} (B : Int) : ∀ n : Nat, (∀ t, t < n → 0 ≤ f t ∧ f t ≤ B) → 0 ≤ sumA f n ∧ sumA f n ≤ n * B
  | 0, _ => by simp [sumA]
  | n + 1, h => by
    have h1 := sumA_bd B n (fun t ht => h t (by omega))
    have h2 := h n (by omega)
    rw [sumA, Int.natCast_add, Int.add_mul]
    simp only [Int.natCast_one, Int.one_mul]
    omega
def chkA (w : List Int) : Int :=
  if w.length < 1 ∨ 12 < w.length then 2 else if w.any (fun x => decide (x < 0 ∨ 100 < x)) then 1 else if sumA (nth w) w.length = 0 then 5 else 0
structure AOk (w : List Int) (n : Nat) (S : Int) : Prop where
  len : w.length = n
  n1 : 1 ≤ n
  n12 : n ≤ 12
  bd : ∀ i, i < n → 0 ≤ nth w i ∧ nth w i ≤ 100
  sum : sumA (nth w) n = S
  pos : 0 < S
  s12 : S ≤ 1200
theorem chkA_ok {w : List Int} (h : chkA w = 0) : AOk w w.length (sumA (nth w) w.length) := by
  unfold chkA at h
  split at h
  · simp at h
  · rename_i h1
    split at h
    · simp at h
    · rename_i h2
      split at h
      · simp at h
      · rename_i h3
        have hb : ∀ i, i < w.length → 0 ≤ nth w i ∧ nth w i ≤ 100 := fun i hi => by
          have := fun h => h2 (List.any_eq_true.2 ⟨nth w i, nth_mem w i hi, h⟩)
          simp at this; omega
        have := sumA_bd 100 w.length hb
        exact ⟨rfl, by omega, by omega, hb, rfl, by omega, by omega⟩
def cut (C : List Int) (c : Nat) : Int := nth C (c * 2)
def oth (C : List Int) (c : Nat) : Int := nth C (c * 2 + 1)
/-- what column c gives to i -/
def givesC (C : List Int) (S : Int) (i c : Nat) : Int := (if c = i then cut C c else 0) + if oth C c = (i : Int) then S - cut C c else 0
structure TabOk (w C : List Int) (n : Nat) (S : Int) : Prop where
  len : C.length = n * 2
  cb : ∀ c, c < n → (0 ≤ cut C c ∧ cut C c ≤ S) ∧ 0 ≤ oth C c ∧ oth C c < n
  acc : ∀ i, i < n → sumA (givesC C S i) n = nth w i * n
structure BInv (w left done C : List Int) (n : Nat) (S : Int) (r : Nat) : Prop where
  lenL : left.length = n
  lenD : done.length = n
  lenC : C.length = n * 2
  dn : ∀ i, i < n → nth done i = 0 ∨ nth done i = 1
  lb : ∀ i, i < n → 0 ≤ nth left i ∧ nth left i ≤ 1200
  cnt : sumA (fun j => if nth done j = 1 then 0 else 1) n = (n : Int) - r
  tot : sumA (fun j => if nth done j = 1 then 0 else nth left j) n = ((n : Int) - r) * S
  cb : ∀ c, c < n → nth done c = 1 → (0 ≤ cut C c ∧ cut C c ≤ S) ∧ 0 ≤ oth C c ∧ oth C c < n
  acc : ∀ i, i < n → sumA (fun c => if nth done c = 1 then givesC C S i c else 0) n + (if nth done i = 1 then 0 else nth left i) = nth w i * n
theorem binv_start {w : List Int} {n : Nat} {S : Int} (h : AOk w n S) (left : List Int) (hl : left.length = n) (hv : ∀ i, i < n → nth left i = nth w i * n) : BInv w left (List.replicate n 0) (List.replicate (n * 2) 0) n S 0 := by
  have hz : ∀ i, i < n → nth (List.replicate n (0 : Int)) i = 0 := fun i hi => nth_rep _ _ _ hi
  have n12 := h.n12
  refine ⟨hl, by simp, by simp, fun i hi => .inl (hz i hi), fun i hi => ?_, ?_, ?_, fun c hc e => ?_, fun i hi => ?_⟩
  · have hb := h.bd i hi
    rw [hv i hi]
    have : 0 ≤ nth w i * (n : Int) := Int.mul_nonneg hb.1 (by omega)
    have : nth w i * (n : Int) ≤ 100 * 12 := Int.mul_le_mul hb.2 (by omega) (by omega) (by omega)
    omega
  · rw [sumA_congr (g := fun _ => 1) n (fun t ht => by rw [hz t ht]; rfl), sumA_one]; simp
  · rw [sumA_congr (g := fun t => (n : Int) * nth w t) n (fun t ht => by rw [hz t ht, hv t ht, Int.mul_comm]; rfl), sumA_mul, h.sum]; simp
  · rw [hz c hc] at e; omega
  · rw [sumA_congr (g := fun _ => 0) n (fun t ht => by rw [hz t ht]; rfl), sumA_zero, hz i hi, hv i hi]; simp
theorem binv_end {w left done C : List Int} {n : Nat} {S : Int} (h : BInv w left done C n S n) : TabOk w C n S := by
  have hd : ∀ i, i < n → nth done i = 1 := fun i hi => by
    rcases h.dn i hi with e | e
    · have := sumA_ge (f := fun j => if nth done j = 1 then 0 else 1) n (fun t _ => by show (0 : Int) ≤ if nth done t = 1 then 0 else 1; split <;> omega) i hi
      rw [h.cnt] at this
      simp only [e] at this
      simp at this
    · exact e
  refine ⟨h.lenC, fun c hc => h.cb c hc (hd c hc), fun i hi => ?_⟩
  have := h.acc i hi
  rw [hd i hi, if_pos rfl, Int.add_zero] at this
  rw [← this]
  exact sumA_congr n (fun t ht => by rw [hd t ht, if_pos rfl])
/-- the least is no more than there is room, the most no less -/
theorem binv_avg {w left done C : List Int} {n : Nat} {S : Int} {r : Nat} (h : BInv w left done C n S r) (hr : r < n) :
    (∀ s, (∀ j, j < n → nth done j = 0 → nth left s ≤ nth left j) → nth left s ≤ S) ∧ (∀ g, (∀ j, j < n → nth done j = 0 → nth left j ≤ nth left g) → S ≤ nth left g) := by
  have hp : 0 < (n : Int) - r := by omega
  constructor
  · intro s hs
    have := sumA_le (f := fun j => nth left s * if nth done j = 1 then 0 else 1) (g := fun j => if nth done j = 1 then 0 else nth left j) n (fun t ht => by
      rcases h.dn t ht with e | e
      · rw [e]; simp; exact hs t ht e
      · rw [e]; simp)
    rw [sumA_mul, h.cnt, h.tot, Int.mul_comm ((n : Int) - r)] at this
    exact Int.le_of_mul_le_mul_right this hp
  · intro g hg
    have := sumA_le (f := fun j => if nth done j = 1 then 0 else nth left j) (g := fun j => nth left g * if nth done j = 1 then 0 else 1) n (fun t ht => by
      rcases h.dn t ht with e | e
      · rw [e]; simp; exact hg t ht e
      · rw [e]; simp)
    rw [sumA_mul, h.cnt, h.tot, Int.mul_comm ((n : Int) - r)] at this
    exact Int.le_of_mul_le_mul_right this hp
theorem binv_any {w left done C : List Int} {n : Nat} {S : Int} {r : Nat} (h : BInv w left done C n S r) (hr : r < n) : ∃ i, i < n ∧ nth done i = 0 := by
  refine Classical.byContradiction fun hno => ?_
  have hd : ∀ t, t < n → nth done t = 1 := fun t ht => by
    rcases h.dn t ht with e | e
    · exact absurd ⟨t, ht, e⟩ hno
    · exact e
  have := h.cnt
  rw [sumA_congr (g := fun _ => 0) n (fun t ht => by rw [hd t ht, if_pos rfl]), sumA_zero] at this
  omega
def nextC (left C : List Int) (s g : Nat) : List Int := (C.set (s * 2) (nth left s)).set (s * 2 + 1) (g : Int)
def nextL (left : List Int) (S : Int) (s g : Nat) : List Int := if s = g then (left.set g (nth left g - (S - nth left s))).set g 0 else left.set g (nth left g - (S - nth left s))
theorem binv_step {w left done C : List Int} {n : Nat} {S : Int} {r : Nat} (_hS : 0 < S) (h : BInv w left done C n S r) (hr : r < n) (s g : Nat) (hs : s < n) (hg : g < n) (ds : nth done s = 0) (dg : nth done g = 0)
    (hmin : ∀ j, j < n → nth done j = 0 → nth left s ≤ nth left j) (hmax : ∀ j, j < n → nth done j = 0 → nth left j ≤ nth left g) :
    BInv w (nextL left S s g) (done.set s 1) (nextC left C s g) n S (r + 1) := by
  have hA := (binv_avg h hr).1 s hmin
  have hB := (binv_avg h hr).2 g hmax
  have lenL := h.lenL; have lenD := h.lenD; have lenC := h.lenC
  have ls := h.lb s hs
  have lg := h.lb g hg
  have hD : ∀ j, nth (done.set s 1) j = if j = s then 1 else nth done j := fun j => nth_set _ _ _ _ (by omega)
  have hC : ∀ c, c ≠ s → cut (nextC left C s g) c = cut C c ∧ oth (nextC left C s g) c = oth C c := fun c hc => by
    unfold nextC cut oth
    rw [nth_set _ _ _ _ (by rw [List.length_set]; omega), nth_set _ _ _ _ (by omega), nth_set _ _ _ _ (by rw [List.length_set]; omega), nth_set _ _ _ _ (by omega), if_neg (by omega), if_neg (by omega), if_neg (by omega), if_neg (by omega)]
    exact ⟨rfl, rfl⟩
  have hCs : cut (nextC left C s g) s = nth left s ∧ oth (nextC left C s g) s = g := by
    unfold nextC cut oth
    rw [nth_set _ _ _ _ (by rw [List.length_set]; omega), nth_set _ _ _ _ (by omega), nth_set _ _ _ _ (by rw [List.length_set]; omega), if_neg (by omega), if_pos rfl, if_pos rfl]
    exact ⟨rfl, rfl⟩
  have hL : ∀ j, j ≠ s → nth (nextL left S s g) j = if j = g then nth left g - (S - nth left s) else nth left j := fun j hj => by
    unfold nextL
    by_cases e : s = g
    · rw [if_pos e, nth_set _ _ _ _ (by rw [List.length_set]; omega), nth_set _ _ _ _ (by omega), if_neg (by omega), if_neg (by omega)]
    · rw [if_neg e, nth_set _ _ _ _ (by omega)]
  have hLs : 0 ≤ nth (nextL left S s g) s ∧ nth (nextL left S s g) s ≤ 1200 := by
    unfold nextL
    by_cases e : s = g
    · rw [if_pos e, nth_set _ _ _ _ (by rw [List.length_set]; omega), if_pos e]; omega
    · rw [if_neg e, nth_set _ _ _ _ (by omega), if_neg e]; exact ls
  refine ⟨?_, by rw [List.length_set, lenD], by unfold nextC; rw [List.length_set, List.length_set, lenC], fun i hi => ?_, fun i hi => ?_, ?_, ?_, fun c hc e => ?_, fun i hi => ?_⟩
  · unfold nextL; split <;> simp [lenL]
  · rw [hD]; split
    · exact .inr rfl
    · exact h.dn i hi
  · by_cases e : i = s
    · subst e; exact hLs
    · rw [hL i e]; split
      · omega
      · exact h.lb i hi
  · have := sumA_upd (f := fun j => if nth done j = 1 then (0 : Int) else 1) (g := fun j => if nth (done.set s 1) j = 1 then (0 : Int) else 1) s n (fun t _ hne => by simp only [hD, if_neg hne])
    rw [this, h.cnt, if_pos hs, hD, if_pos rfl, ds]; simp; omega
  · -- what is left
    by_cases e : s = g
    · subst e
      have hSS : nth left s = S := by omega
      have := sumA_upd (f := fun j => if nth done j = 1 then (0 : Int) else nth left j) (g := fun j => if nth (done.set s 1) j = 1 then (0 : Int) else nth (nextL left S s s) j) s n (fun t _ hne => by simp only [hD, if_neg hne, hL t hne])
      rw [this, h.tot, if_pos hs, hD, if_pos rfl, ds]
      simp only [hSS]
      simp
      have : ((n : Int) - (↑r + 1)) * S = ((n : Int) - r) * S - S := by rw [show (n : Int) - (↑r + 1) = ((n : Int) - r) - 1 from by omega, Int.sub_mul, Int.one_mul]
      omega
    · have e1 := sumA_upd (f := fun j => if nth done j = 1 then (0 : Int) else nth left j) (g := fun j => if j = s then (0 : Int) else if nth done j = 1 then (0 : Int) else nth left j) s n (fun t _ hne => by simp only [if_neg hne])
      have e2 := sumA_upd (f := fun j => if j = s then (0 : Int) else if nth done j = 1 then (0 : Int) else nth left j) (g := fun j => if nth (done.set s 1) j = 1 then (0 : Int) else nth (nextL left S s g) j) g n (fun t _ hne => by
        simp only [hD]
        by_cases et : t = s
        · subst et; simp
        · rw [if_neg et, hL t et, if_neg hne, if_neg et])
      have gs : ¬ g = s := fun h => e h.symm
      rw [e2, e1, h.tot, if_pos hs, if_pos hg]
      simp [hD, gs, dg, ds, hL g gs]
      have : ((n : Int) - (↑r + 1)) * S = ((n : Int) - r) * S - S := by rw [show (n : Int) - (↑r + 1) = ((n : Int) - r) - 1 from by omega, Int.sub_mul, Int.one_mul]
      omega
  · by_cases es : c = s
    · subst es; rw [hCs.1, hCs.2]; omega
    · rw [hD, if_neg es] at e
      rw [(hC c es).1, (hC c es).2]; exact h.cb c hc e
  · have ha := h.acc i hi
    have := sumA_upd (f := fun c => if nth done c = 1 then givesC C S i c else 0) (g := fun c => if nth (done.set s 1) c = 1 then givesC (nextC left C s g) S i c else 0) s n (fun t _ hne => by
      simp only [hD, if_neg hne]
      unfold givesC
      rw [(hC t hne).1, (hC t hne).2])
    rw [this, if_pos hs, hD, if_pos rfl, ds]
    unfold givesC at *
    rw [hCs.1, hCs.2]
    simp
    by_cases eis : i = s
    · subst eis
      rw [ds] at ha
      by_cases e : i = g
      · subst e
        have hSS : nth left i = S := by omega
        simp [hD] at ha ⊢; omega
      · simp [hD] at ha ⊢; omega
    · rw [hD, if_neg eis]
      have eis' : ¬ s = i := fun h => eis h.symm
      by_cases e : g = i
      · subst e
        rw [dg] at ha ⊢
        rw [hL g eis]
        simp [eis'] at ha ⊢; omega
      · have e' : ¬ i = g := fun h => e h.symm
        rw [hL i eis]
        simp [eis', e'] at ha ⊢; omega
end Go.Proofs.Ytgblmbhbbjgdiaa
