/- Plain numbers of ruin: the sums of powers, and the finitely many cases of the laws. -/
import Derived.Test.YtghobphnjfgjeaaRat3
namespace Go.Proofs.Ytghobphnjfgjeaa
open Go.RowKit

/-- q to the k by p to the rest, for the first a of n -/
def geo (p q n : Nat) : Nat → Nat
  | 0 => 0
  | k + 1 => geo p q n k + q ^ k * p ^ (n - 1 - k)
theorem geo_term (p q n k : Nat) (hp : p ≤ 7) (hq : q ≤ 7) (hn : n ≤ 7) (hk : k < n) : q ^ k ≤ 117649 ∧ p ^ (n - 1 - k) ≤ 117649 ∧ q ^ k * p ^ (n - 1 - k) ≤ 117649 := by
  have h1 : q ^ k ≤ 7 ^ k := Nat.pow_le_pow_left hq k
  have h2 : p ^ (n - 1 - k) ≤ 7 ^ (n - 1 - k) := Nat.pow_le_pow_left hp _
  have h3 : 7 ^ k ≤ 7 ^ 6 := Nat.pow_le_pow_right (by omega) (by omega)
  have h4 : 7 ^ (n - 1 - k) ≤ 7 ^ 6 := Nat.pow_le_pow_right (by omega) (by omega)
  have h5 : q ^ k * p ^ (n - 1 - k) ≤ 7 ^ k * 7 ^ (n - 1 - k) := Nat.mul_le_mul h1 h2
  rw [← Nat.pow_add] at h5
  have h6 : 7 ^ (k + (n - 1 - k)) ≤ 7 ^ 6 := Nat.pow_le_pow_right (by omega) (by omega)
  have e : (7 : Nat) ^ 6 = 117649 := rfl
  omega
theorem geo_le (p q n k : Nat) (hp : p ≤ 7) (hq : q ≤ 7) (hn : n ≤ 7) (hk : k ≤ n) : geo p q n k ≤ 117649 * k := by
  induction k with
  | zero => simp [geo]
  | succ k ih =>
    have := geo_term p q n k hp hq hn (by omega)
    have := ih (by omega)
    simp only [geo]; omega
theorem geo_pos (p q n : Nat) (hp : 1 ≤ p) : ∀ k, 1 ≤ k → 0 < geo p q n k := by
  intro k hk
  induction k with
  | zero => omega
  | succ k ih =>
    rcases Nat.eq_zero_or_pos k with rfl | h
    · simp only [geo, Nat.pow_zero, Nat.one_mul]
      have := Nat.pow_pos (n := n - 1 - 0) hp; omega
    · have := ih h; simp only [geo]; omega
theorem geo_mono (p q n a k : Nat) (h : a ≤ k) : geo p q n a ≤ geo p q n k := by
  induction k with
  | zero => obtain rfl : a = 0 := by omega
            exact Nat.le_refl _
  | succ k ih =>
    rcases Nat.lt_or_ge k a with h1 | h1
    · obtain rfl : a = k + 1 := by omega
      exact Nat.le_refl _
    · have := ih h1; simp only [geo]; omega
def winP (a n p q : Nat) : Int := redP (geo p q n a) (geo p q n n)
def winQ (a n p q : Nat) : Int := redQ (geo p q n a) (geo p q n n)
theorem win_rat (a n p q : Nat) (hn : 1 ≤ n ∧ n ≤ 7) (ha : a ≤ n) (hp : 1 ≤ p ∧ p ≤ 7) (hq : 1 ≤ q ∧ q ≤ 7) : Rat1 (winP a n p q) (winQ a n p q) := by
  have h1 := geo_le p q n n hp.2 hq.2 hn.2 (Nat.le_refl _)
  have h2 := geo_mono p q n a n ha
  have h3 := geo_pos p q n hp.1 n hn.1
  exact red_rat _ _ (by omega) (by omega)

def uP (x y z v : Int) : Int := redP (x * z) (y * v)
def uQ (x y z v : Int) : Int := redQ (x * z) (y * v)
def ratB (P Q : Int) : Bool := decide (1 ≤ Q) && decide (Q ≤ 1000000000) && decide (-1000000000 ≤ P) && decide (P ≤ 1000000000) && Int.gcd P Q == 1
theorem ratB_is {P Q : Int} (h : ratB P Q = true) : Rat1 P Q := by
  unfold ratB at h
  simp only [Bool.and_eq_true, decide_eq_true_eq, beq_iff_eq] at h
  exact ⟨h.1.1.1.1, h.1.1.1.2, h.1.1.2, h.1.2, h.2⟩
def redB (p q X Y : Int) : Bool := redP p q == X && redQ p q == Y
theorem redB_is {p q X Y : Int} (h : redB p q X Y = true) : RedIs p q X Y := by
  unfold redB at h
  simp only [Bool.and_eq_true, beq_iff_eq] at h
  exact h
/-- RuinStep at one place: the two products, and their sum -/
def stepB (a n p q : Nat) (c d e f u1 u2 v1 v2 : Int) : Bool :=
  ratB c d && ratB e f && redB (winP (a + 1) n p q * c) (winQ (a + 1) n p q * d) u1 u2 && redB (winP (a - 1) n p q * e) (winQ (a - 1) n p q * f) v1 v2 &&
  ratB u1 u2 && ratB v1 v2 && redB (u1 * v2 + v1 * u2) (u2 * v2) (winP a n p q) (winQ a n p q) && winP 0 n p q == 0 && winP n n p q == 1 && winQ n n p q == 1
def stepC (a n p q : Nat) : Bool :=
  let c := redP p ((p : Int) + q); let d := redQ p ((p : Int) + q); let e := redP q ((p : Int) + q); let f := redQ q ((p : Int) + q)
  stepB a n p q c d e f (uP (winP (a + 1) n p q) (winQ (a + 1) n p q) c d) (uQ (winP (a + 1) n p q) (winQ (a + 1) n p q) c d) (uP (winP (a - 1) n p q) (winQ (a - 1) n p q) e f) (uQ (winP (a - 1) n p q) (winQ (a - 1) n p q) e f)
theorem step_all : ∀ n, n < 5 → ∀ p, p < 6 → ∀ q, q < 6 → ∀ a, a < n + 1 → stepC (a + 1) (n + 2) (p + 1) (q + 1) = true := by decide +kernel
theorem step_math (a n p q : Nat) (hn : n < 5) (hp : p < 6) (hq : q < 6) (ha : a < n + 1) : ∃ c d e f u1 u2 v1 v2 : Int,
    RedIs ((p + 1 : Nat) : Int) (((p + 1 : Nat) : Int) + (q + 1 : Nat)) c d ∧ RedIs ((q + 1 : Nat) : Int) (((p + 1 : Nat) : Int) + (q + 1 : Nat)) e f ∧ Rat1 c d ∧ Rat1 e f ∧
    RedIs (winP (a + 1 + 1) (n + 2) (p + 1) (q + 1) * c) (winQ (a + 1 + 1) (n + 2) (p + 1) (q + 1) * d) u1 u2 ∧ RedIs (winP a (n + 2) (p + 1) (q + 1) * e) (winQ a (n + 2) (p + 1) (q + 1) * f) v1 v2 ∧
    Rat1 u1 u2 ∧ Rat1 v1 v2 ∧ RedIs (u1 * v2 + v1 * u2) (u2 * v2) (winP (a + 1) (n + 2) (p + 1) (q + 1)) (winQ (a + 1) (n + 2) (p + 1) (q + 1)) ∧
    winP 0 (n + 2) (p + 1) (q + 1) = 0 ∧ winP (n + 2) (n + 2) (p + 1) (q + 1) = 1 ∧ winQ (n + 2) (n + 2) (p + 1) (q + 1) = 1 := by
  have h := step_all n hn p hp q hq a ha
  unfold stepC stepB at h
  simp only [Bool.and_eq_true, beq_iff_eq] at h
  obtain ⟨⟨⟨⟨⟨⟨⟨⟨⟨h1, h2⟩, h3⟩, h4⟩, h5⟩, h6⟩, h7⟩, h8⟩, h9⟩, h10⟩ := h
  exact ⟨_, _, _, _, _, _, _, _, ⟨rfl, rfl⟩, ⟨rfl, rfl⟩, ratB_is h1, ratB_is h2, redB_is h3, redB_is h4, ratB_is h5, ratB_is h6, redB_is h7, h8, h9, h10⟩

/-- RuinOther at one place -/
def otherC (a n p q : Nat) : Bool :=
  redB (winP a n p q * winQ (n - a) n q p + winP (n - a) n q p * winQ a n p q) (winQ a n p q * winQ (n - a) n q p) 1 1 &&
  decide (¬ winP a n (p + 1) q * winQ a n p q < winP a n p q * winQ a n (p + 1) q) && redB a n (winP a n p p) (winQ a n p p)
theorem other_all : ∀ n, n < 7 → ∀ p, p < 6 → ∀ q, q < 6 → ∀ a, a < n + 2 → otherC a (n + 1) (p + 1) (q + 1) = true := by decide +kernel
theorem other_math (a n p q : Nat) (hn : n < 7) (hp : p < 6) (hq : q < 6) (ha : a < n + 2) :
    RedIs (winP a (n + 1) (p + 1) (q + 1) * winQ (n + 1 - a) (n + 1) (q + 1) (p + 1) + winP (n + 1 - a) (n + 1) (q + 1) (p + 1) * winQ a (n + 1) (p + 1) (q + 1)) (winQ a (n + 1) (p + 1) (q + 1) * winQ (n + 1 - a) (n + 1) (q + 1) (p + 1)) 1 1 ∧
    ¬ winP a (n + 1) (p + 1 + 1) (q + 1) * winQ a (n + 1) (p + 1) (q + 1) < winP a (n + 1) (p + 1) (q + 1) * winQ a (n + 1) (p + 1 + 1) (q + 1) ∧
    RedIs (a : Int) ((n + 1 : Nat) : Int) (winP a (n + 1) (p + 1) (p + 1)) (winQ a (n + 1) (p + 1) (p + 1)) := by
  have h := other_all n hn p hp q hq a ha
  unfold otherC at h
  simp only [Bool.and_eq_true, decide_eq_true_eq] at h
  exact ⟨redB_is h.1.1, h.1.2, redB_is h.2⟩

/-- how long it takes: for p and q that differ -/
def tmX (a n p q : Nat) : Int × Int := (redP (winP a n p q * n) (winQ a n p q * 1), redQ (winP a n p q * n) (winQ a n p q * 1))
def tmY (a n p q : Nat) : Int × Int := (redP ((tmX a n p q).1 * 1 + -(a : Int) * (tmX a n p q).2) ((tmX a n p q).2 * 1), redQ ((tmX a n p q).1 * 1 + -(a : Int) * (tmX a n p q).2) ((tmX a n p q).2 * 1))
def tmB (p q : Nat) : Int × Int := (mkP ((p : Int) + q) ((p : Int) - q), mkQ ((p : Int) + q) ((p : Int) - q))
def tmZ (a n p q : Nat) : Int × Int :=
  if p = q then (redP ((a : Int) * (n - a)) 1, redQ ((a : Int) * (n - a)) 1)
  else (redP ((tmY a n p q).1 * (tmB p q).1) ((tmY a n p q).2 * (tmB p q).2), redQ ((tmY a n p q).1 * (tmB p q).1) ((tmY a n p q).2 * (tmB p q).2))
def timB (a n p q : Nat) : Bool := ratB (tmX a n p q).1 (tmX a n p q).2 && ratB (tmY a n p q).1 (tmY a n p q).2 && ratB (tmZ a n p q).1 (tmZ a n p q).2
theorem tim_all : ∀ n, n < 5 → ∀ p, p < 5 → ∀ q, q < 5 → ∀ a, a < n + 2 → timB a (n + 1) (p + 1) (q + 1) = true := by decide +kernel
def timeC (a n p q : Nat) : Bool :=
  let c := redP p ((p : Int) + q); let d := redQ p ((p : Int) + q); let e := redP q ((p : Int) + q); let f := redQ q ((p : Int) + q)
  let y := tmZ (a + 1) n p q; let z := tmZ (a - 1) n p q; let x := tmZ a n p q
  let u1 := uP y.1 y.2 c d; let u2 := uQ y.1 y.2 c d; let v1 := uP z.1 z.2 e f; let v2 := uQ z.1 z.2 e f
  let s1 := redP (u1 * v2 + v1 * u2) (u2 * v2); let s2 := redQ (u1 * v2 + v1 * u2) (u2 * v2)
  ratB c d && ratB e f && ratB u1 u2 && ratB v1 v2 && ratB s1 s2 && redB (s1 * 1 + 1 * s2) (s2 * 1) x.1 x.2
theorem time_all : ∀ n, n < 4 → ∀ p, p < 5 → ∀ q, q < 5 → ∀ a, a < n + 1 → timeC (a + 1) (n + 2) (p + 1) (q + 1) = true := by decide +kernel
theorem time_math (a n p q : Nat) (hn : n < 4) (hp : p < 5) (hq : q < 5) (ha : a < n + 1) : ∃ c d e f u1 u2 v1 v2 s1 s2 : Int,
    RedIs ((p + 1 : Nat) : Int) (((p + 1 : Nat) : Int) + (q + 1 : Nat)) c d ∧ RedIs ((q + 1 : Nat) : Int) (((p + 1 : Nat) : Int) + (q + 1 : Nat)) e f ∧ Rat1 c d ∧ Rat1 e f ∧
    RedIs ((tmZ (a + 1 + 1) (n + 2) (p + 1) (q + 1)).1 * c) ((tmZ (a + 1 + 1) (n + 2) (p + 1) (q + 1)).2 * d) u1 u2 ∧ RedIs ((tmZ a (n + 2) (p + 1) (q + 1)).1 * e) ((tmZ a (n + 2) (p + 1) (q + 1)).2 * f) v1 v2 ∧
    Rat1 u1 u2 ∧ Rat1 v1 v2 ∧ RedIs (u1 * v2 + v1 * u2) (u2 * v2) s1 s2 ∧ Rat1 s1 s2 ∧ RedIs (s1 * 1 + 1 * s2) (s2 * 1) (tmZ (a + 1) (n + 2) (p + 1) (q + 1)).1 (tmZ (a + 1) (n + 2) (p + 1) (q + 1)).2 := by
  have h := time_all n hn p hp q hq a ha
  unfold timeC at h
  simp only [Bool.and_eq_true] at h
  obtain ⟨⟨⟨⟨⟨h1, h2⟩, h3⟩, h4⟩, h5⟩, h6⟩ := h
  exact ⟨_, _, _, _, _, _, _, _, _, _, ⟨rfl, rfl⟩, ⟨rfl, rfl⟩, ratB_is h1, ratB_is h2, ⟨rfl, rfl⟩, ⟨rfl, rfl⟩, ratB_is h3, ratB_is h4, ⟨rfl, rfl⟩, ratB_is h5, redB_is h6⟩
theorem tim_math (a n p q : Nat) (hn : 1 ≤ n ∧ n ≤ 5) (hp : 1 ≤ p ∧ p ≤ 5) (hq : 1 ≤ q ∧ q ≤ 5) (ha : a ≤ n) :
    Rat1 (tmX a n p q).1 (tmX a n p q).2 ∧ Rat1 (tmY a n p q).1 (tmY a n p q).2 ∧ Rat1 (tmZ a n p q).1 (tmZ a n p q).2 := by
  obtain ⟨n', rfl⟩ : ∃ k, n = k + 1 := ⟨n - 1, by omega⟩
  obtain ⟨p', rfl⟩ : ∃ k, p = k + 1 := ⟨p - 1, by omega⟩
  obtain ⟨q', rfl⟩ : ∃ k, q = k + 1 := ⟨q - 1, by omega⟩
  have h := tim_all n' (by omega) p' (by omega) q' (by omega) a (by omega)
  unfold timB at h
  simp only [Bool.and_eq_true] at h
  exact ⟨ratB_is h.1.1, ratB_is h.1.2, ratB_is h.2⟩

/-! the same, with the numbers as the laws have them -/
theorem step_math' (a n p q : Nat) (hn : 2 ≤ n ∧ n ≤ 6) (hp : 1 ≤ p ∧ p ≤ 6) (hq : 1 ≤ q ∧ q ≤ 6) (ha : 1 ≤ a ∧ a < n) : ∃ c d e f u1 u2 v1 v2 : Int,
    RedIs (p : Int) ((p : Int) + (q : Int)) c d ∧ RedIs (q : Int) ((p : Int) + (q : Int)) e f ∧ Rat1 c d ∧ Rat1 e f ∧
    RedIs (winP (a + 1) n p q * c) (winQ (a + 1) n p q * d) u1 u2 ∧ RedIs (winP (a - 1) n p q * e) (winQ (a - 1) n p q * f) v1 v2 ∧
    Rat1 u1 u2 ∧ Rat1 v1 v2 ∧ RedIs (u1 * v2 + v1 * u2) (u2 * v2) (winP a n p q) (winQ a n p q) ∧
    winP 0 n p q = 0 ∧ winP n n p q = 1 ∧ winQ n n p q = 1 := by
  obtain ⟨n', rfl⟩ : ∃ k, n = k + 2 := ⟨n - 2, by omega⟩
  obtain ⟨p', rfl⟩ : ∃ k, p = k + 1 := ⟨p - 1, by omega⟩
  obtain ⟨q', rfl⟩ : ∃ k, q = k + 1 := ⟨q - 1, by omega⟩
  obtain ⟨a', rfl⟩ : ∃ k, a = k + 1 := ⟨a - 1, by omega⟩
  exact step_math a' n' p' q' (by omega) (by omega) (by omega) (by omega)
theorem other_math' (a n p q : Nat) (hn : 1 ≤ n ∧ n ≤ 7) (hp : 1 ≤ p ∧ p ≤ 6) (hq : 1 ≤ q ∧ q ≤ 6) (ha : a ≤ n) :
    RedIs (winP a n p q * winQ (n - a) n q p + winP (n - a) n q p * winQ a n p q) (winQ a n p q * winQ (n - a) n q p) 1 1 ∧
    ¬ winP a n (p + 1) q * winQ a n p q < winP a n p q * winQ a n (p + 1) q ∧
    RedIs (a : Int) (n : Int) (winP a n p p) (winQ a n p p) := by
  obtain ⟨n', rfl⟩ : ∃ k, n = k + 1 := ⟨n - 1, by omega⟩
  obtain ⟨p', rfl⟩ : ∃ k, p = k + 1 := ⟨p - 1, by omega⟩
  obtain ⟨q', rfl⟩ : ∃ k, q = k + 1 := ⟨q - 1, by omega⟩
  exact other_math a n' p' q' (by omega) (by omega) (by omega) (by omega)
theorem time_math' (a n p q : Nat) (hn : 2 ≤ n ∧ n ≤ 5) (hp : 1 ≤ p ∧ p ≤ 5) (hq : 1 ≤ q ∧ q ≤ 5) (ha : 1 ≤ a ∧ a < n) : ∃ c d e f u1 u2 v1 v2 s1 s2 : Int,
    RedIs (p : Int) ((p : Int) + (q : Int)) c d ∧ RedIs (q : Int) ((p : Int) + (q : Int)) e f ∧ Rat1 c d ∧ Rat1 e f ∧
    RedIs ((tmZ (a + 1) n p q).1 * c) ((tmZ (a + 1) n p q).2 * d) u1 u2 ∧ RedIs ((tmZ (a - 1) n p q).1 * e) ((tmZ (a - 1) n p q).2 * f) v1 v2 ∧
    Rat1 u1 u2 ∧ Rat1 v1 v2 ∧ RedIs (u1 * v2 + v1 * u2) (u2 * v2) s1 s2 ∧ Rat1 s1 s2 ∧ RedIs (s1 * 1 + 1 * s2) (s2 * 1) (tmZ a n p q).1 (tmZ a n p q).2 := by
  obtain ⟨n', rfl⟩ : ∃ k, n = k + 2 := ⟨n - 2, by omega⟩
  obtain ⟨p', rfl⟩ : ∃ k, p = k + 1 := ⟨p - 1, by omega⟩
  obtain ⟨q', rfl⟩ : ∃ k, q = k + 1 := ⟨q - 1, by omega⟩
  obtain ⟨a', rfl⟩ : ∃ k, a = k + 1 := ⟨a - 1, by omega⟩
  exact time_math a' n' p' q' (by omega) (by omega) (by omega) (by omega)
end Go.Proofs.Ytghobphnjfgjeaa
