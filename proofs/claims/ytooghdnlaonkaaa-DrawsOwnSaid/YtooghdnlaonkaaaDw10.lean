/- Several of my texts in one: Rat3, UrnM. -/
import Derived.Test.YtooghdnlaonkaaaDw09
import Derived.Test.YtooghdnlaonkaaaDw05
/- Contracts of ratio.Div and ratio.Less; ratios that fit. -/
namespace Go.Proofs.Ytooghdnlaonkaaa
open Go.RowKit

/-- what low answers where it fits -/
theorem low_fits {p q X Y : Int} {w : World} {e : Ending} {w' : World} (h : LowSaid p q w e w') (hr : RedIs p q X Y) (hx : Rat1 X Y) :
    e = .returned (.tuple #[.agg #[.int .i64 X, .int .i64 Y], .int .i64 0]) ∧ Below w.heap.size w w' := by
  obtain ⟨P, Q, er, he, hl, hb⟩ := h
  refine ⟨?_, hb⟩
  rcases hl with ⟨h1, _, _, h2, h3⟩ | ⟨_, _, _, h⟩
  · rw [he, h1, h2, h3, hr.1, hr.2]
  · exfalso; apply h; rw [hr.1, hr.2]; exact ⟨hx.2.1, hx.2.2.1, hx.2.2.2.1⟩
theorem mul_fits (P Q R S X Y : Int) (w : World) (h : Rat1 P Q) (h2 : Rat1 R S) (hr : RedIs (P * R) (Q * S) X Y) (hx : Rat1 X Y) :
    Calls Try.prog 131 #[.agg #[.int .i64 P, .int .i64 Q], .agg #[.int .i64 R, .int .i64 S]] w fun e w' => e = .returned (.tuple #[.agg #[.int .i64 X, .int .i64 Y], .int .i64 0]) ∧ Below w.heap.size w w' :=
  (mul_any P Q R S w h h2).mono fun _ _ hl => low_fits hl hr hx

theorem make_fits (p q X Y : Int) (w : World) (hp : -1000000000 ≤ p ∧ p ≤ 1000000000) (hq : 0 < q ∧ q ≤ 1000000000) (hr : RedIs p q X Y) :
    Calls Try.prog 130 #[.int .i64 p, .int .i64 q] w fun e w' => e = .returned (.tuple #[.agg #[.int .i64 X, .int .i64 Y], .int .i64 0]) ∧ Below w.heap.size w w' := by
  have := make_pos p q w hp hq
  rw [hr.1, hr.2] at this
  exact this
/-- block B is a struct of two ints -/
def St (w : World) (B T : Nat) (X Y : Int) : Prop := w.heap[B]? = some (.cells #[.int .i64 X, .int .i64 Y] T)
theorem St.lt {w : World} {B T : Nat} {X Y : Int} (h : St w B T X Y) : B < w.heap.size := by
  unfold St at h; exact (Array.getElem?_eq_some_iff.1 h).1
theorem St.new (w : World) (T : Nat) (X Y : Int) : St (w.alloc (.cells #[.int .i64 X, .int .i64 Y] T)) w.heap.size T X Y := by
  show (w.heap.push _)[w.heap.size]? = _
  exact Array.getElem?_push_size
theorem St.keep {w w' : World} {B T : Nat} {X Y : Int} (h : St w B T X Y) (b : Below w.heap.size w w') : St w' B T X Y := by
  have := h.lt; unfold St at *; rw [b.block B this, h]
theorem St.alloc {w : World} {B T : Nat} {X Y : Int} (h : St w B T X Y) (o : Obj) : St (w.alloc o) B T X Y := h.keep (kin_alloc (Below.refl _ _) o)
theorem St.c0 {w : World} {B T : Nat} {X Y : Int} (h : St w B T X Y) : w.cell? ⟨B, 0, none⟩ = some (.int .i64 X) := by
  unfold St at h; unfold World.cell?
  rw [show ((⟨B, 0, none⟩ : Addr).block) = B from rfl, h]; rfl
theorem St.c1 {w : World} {B T : Nat} {X Y : Int} (h : St w B T X Y) : w.cell? ⟨B, 1, none⟩ = some (.int .i64 Y) := by
  unfold St at h; unfold World.cell?
  rw [show ((⟨B, 1, none⟩ : Addr).block) = B from rfl, h]; rfl
end Go.Proofs.Ytooghdnlaonkaaa
/- Plain laws of urns: what is drawn, and how often. -/
namespace Go.Proofs.Ytooghdnlaonkaaa
open Go.RowKit

def usum : List Int → Int
  | [] => 0
  | x :: r => x + usum r
theorem usum_app : ∀ a b : List Int, usum (a ++ b) = usum a + usum b
  | [], b => by simp [usum]
  | x :: r, b => by rw [List.cons_append, usum, usum, usum_app r b]; omega
theorem usum_snoc (a : List Int) (x : Int) : usum (a ++ [x]) = usum a + x := by rw [usum_app]; simp [usum]
theorem usum_set : ∀ (l : List Int) (k : Nat) (v : Int), k < l.length → usum (l.set k v) = usum l - nth l k + v
  | [], _, _, h => by simp at h
  | x :: r, 0, v, _ => by simp [usum, nth]; omega
  | x :: r, k + 1, v, h => by
    have := usum_set r k v (by simpa using h)
    rw [List.set_cons_succ, usum, usum, this]
    have e : nth (x :: r) (k + 1) = nth r k := by simp [nth]
    rw [e]; omega
theorem usum_bd : ∀ (l : List Int) (B : Int), (∀ x ∈ l, 0 ≤ x ∧ x ≤ B) → 0 ≤ usum l ∧ usum l ≤ l.length * B
  | [], B, _ => by simp [usum]
  | x :: r, B, h => by
    have h1 := usum_bd r B (fun y hy => h y (by simp [hy]))
    have h2 := h x (by simp)
    rw [usum, List.length_cons]
    have : ((r.length + 1 : Nat) : Int) * B = r.length * B + B := by rw [Int.natCast_add, Int.add_mul]; simp
    omega
theorem usum_nn : ∀ (l : List Int), (∀ x ∈ l, 0 ≤ x) → 0 ≤ usum l
  | [], _ => by simp [usum]
  | x :: r, h => by
    have h1 := usum_nn r (fun y hy => h y (by simp [hy]))
    have h2 := h x (by simp)
    rw [usum]; omega
theorem usum_ge : ∀ (l : List Int), (∀ x ∈ l, 0 ≤ x) → ∀ k, k < l.length → nth l k ≤ usum l
  | [], _, k, h => by simp at h
  | x :: r, h, 0, _ => by
    have h0 := usum_nn r (fun y hy => h y (by simp [hy]))
    simp [usum, nth]; omega
  | x :: r, h, k + 1, hk => by
    have h1 := usum_ge r (fun y hy => h y (by simp [hy])) k (by simpa using hk)
    have h2 := h x (by simp)
    have e : nth (x :: r) (k + 1) = nth r k := by simp [nth]
    rw [e, usum]; omega
def urnChk (l : List Int) (more : Int) : Int :=
  if l.length < 1 ∨ 5 < l.length then 2 else if l.any (fun x => decide (x < 0 ∨ 12 < x)) then 1 else if usum l = 0 then 5 else if more < 0 ∨ 12 < more then 1 else 0
structure UOk (l : List Int) (n : Nat) (B : Int) : Prop where
  len : l.length = n
  n1 : 1 ≤ n
  n5 : n ≤ 5
  bd : ∀ x ∈ l, 0 ≤ x ∧ x ≤ B
  pos : 0 < usum l
theorem urnChk_ok {l : List Int} {more : Int} (h : urnChk l more = 0) : UOk l l.length 12 ∧ 0 ≤ more ∧ more ≤ 12 := by
  unfold urnChk at h
  split at h
  · simp at h
  · rename_i h1
    split at h
    · simp at h
    · rename_i h2
      split at h
      · simp at h
      · rename_i h3
        split at h
        · simp at h
        · rename_i h4
          have hb : ∀ x ∈ l, 0 ≤ x ∧ x ≤ 12 := fun x hx => by
            have := fun h => h2 (List.any_eq_true.2 ⟨x, hx, h⟩)
            simp at this; omega
          have := usum_bd l 12 hb
          exact ⟨⟨rfl, by omega, by omega, hb, by omega⟩, by omega, by omega⟩
theorem UOk.sum {l : List Int} {n : Nat} {B : Int} (h : UOk l n B) (hB : 0 ≤ B) : usum l ≤ 5 * B := by
  have := (usum_bd l B h.bd).2
  rw [h.len] at this
  have h5 := h.n5
  have : (n : Int) * B ≤ 5 * B := Int.mul_le_mul_of_nonneg_right (by omega) hB
  omega
theorem UOk.nth {l : List Int} {n : Nat} {B : Int} (h : UOk l n B) (k : Nat) (hk : k < n) : 0 ≤ nth l k ∧ nth l k ≤ B := h.bd _ (nth_mem l k (by rw [h.len]; exact hk))
theorem UOk.more {l : List Int} {n : Nat} {B : Int} (h : UOk l n B) (k : Nat) (hk : k < n) (m : Int) (h0 : 0 ≤ m) (h12 : m ≤ 12) : UOk (l.set k (Go.Proofs.Ytooghdnlaonkaaa.nth l k + m)) n (B + 12) := by
  have hkn := h.nth k hk
  refine ⟨by rw [List.length_set, h.len], h.n1, h.n5, fun x hx => ?_, ?_⟩
  · rcases List.mem_or_eq_of_mem_set hx with hx | rfl
    · have := h.bd x hx; omega
    · omega
  · rw [usum_set _ _ _ (by rw [h.len]; exact hk)]
    have := h.pos; omega
def Fits (a b : Int) : Prop := redQ a b ≤ 1000000000 ∧ -1000000000 ≤ redP a b ∧ redP a b ≤ 1000000000
instance (a b : Int) : Decidable (Fits a b) := by unfold Fits; exact inferInstance
/-- the draws, one by one, from a ratio on -/
def chn (more : Int) : List Int → List Int → Int → Int → Int × Int × Int
  | _, [], P, Q => (P, Q, 0)
  | h, k :: ds, P, Q =>
    if k < 0 ∨ (h.length : Int) ≤ k then (0, 0, 1)
    else if Fits (P * redP (nth h k.toNat) (usum h)) (Q * redQ (nth h k.toNat) (usum h)) then
      chn more (h.set k.toNat (nth h k.toNat + more)) ds (redP (P * redP (nth h k.toNat) (usum h)) (Q * redQ (nth h k.toNat) (usum h))) (redQ (P * redP (nth h k.toNat) (usum h)) (Q * redQ (nth h k.toNat) (usum h)))
    else (0, 0, 2)
def urnL (l : List Int) (more : Int) (ds : List Int) : Int × Int × Int :=
  if urnChk l more ≠ 0 then (0, 0, urnChk l more) else if 12 < ds.length then (0, 0, 2) else chn more l ds 1 1
end Go.Proofs.Ytooghdnlaonkaaa
