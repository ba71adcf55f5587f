/- Several of my texts in one: HalM, Hal1, Lot. -/
import Derived.Test.YtjplnkkcmkpkbaaMA30
import Derived.Laws.IdiomStrings
import Derived.Test.YtjplnkkcmkpkbaaMA29
set_option linter.unusedSimpArgs false
set_option linter.unusedVariables false
/- A hall, in plain words: members, loans. -/
namespace Go.Proofs.Ytjplnkkcmkpkbaa
open Go.RowKit

structure Mem where
  nm : ByteArray
  tk : Int
  wn : Int
structure Loan where
  fr : ByteArray
  to : ByteArray
  n : Int
def memC (m : Mem) : List Value := [.string m.nm, .int .i64 m.tk, .int .i64 m.wn]
def loanC (l : Loan) : List Value := [.string l.fr, .string l.to, .int .i64 l.n]
/-- structs laid one behind the other -/
def rowsC {α : Type} (f : α → List Value) : List α → List Value
  | [] => []
  | x :: l => f x ++ rowsC f l
theorem rowsC_len {α : Type} {f : α → List Value} {c : Nat} (hf : ∀ x, (f x).length = c) : ∀ l : List α, (rowsC f l).length = l.length * c
  | [] => by simp [rowsC]
  | x :: l => by rw [rowsC, List.length_append, hf, rowsC_len hf l, List.length_cons, Nat.add_mul]; omega
theorem rowsC_app {α : Type} (f : α → List Value) : ∀ a b : List α, rowsC f (a ++ b) = rowsC f a ++ rowsC f b
  | [], b => rfl
  | x :: a, b => by rw [List.cons_append, rowsC, rowsC, rowsC_app f a b, List.append_assoc]
theorem rowsC_one {α : Type} (f : α → List Value) (x : α) : rowsC f [x] = f x := by simp [rowsC]
theorem rowsC_get {α : Type} {f : α → List Value} {c : Nat} (hf : ∀ x, (f x).length = c) : ∀ (l : List α) (i j : Nat) (x : α), l[i]? = some x → j < c → (rowsC f l)[i * c + j]? = (f x)[j]?
  | [], i, j, x, h, _ => by simp at h
  | y :: l, 0, j, x, h, hj => by
    have : y = x := by simpa using h
    subst this
    rw [rowsC, Nat.zero_mul, Nat.zero_add, List.getElem?_append_left (by rw [hf]; exact hj)]
  | y :: l, i + 1, j, x, h, hj => by
    rw [rowsC, List.getElem?_append_right (by rw [hf, Nat.add_mul]; omega), hf, show (i + 1) * c + j - c = i * c + j by rw [Nat.add_mul]; omega]
    exact rowsC_get hf l i j x (by simpa using h) hj
theorem rowsC_set {α : Type} {f : α → List Value} {c : Nat} (hf : ∀ x, (f x).length = c) : ∀ (l : List α) (i j : Nat) (x y : α) (v : Value), l[i]? = some x → j < c → (f x).set j v = f y → (rowsC f l).set (i * c + j) v = rowsC f (l.set i y)
  | [], i, j, x, y, v, h, _, _ => by simp at h
  | z :: l, 0, j, x, y, v, h, hj, e => by
    have : z = x := by simpa using h
    subst this
    rw [rowsC, Nat.zero_mul, Nat.zero_add, List.set_append_left _ _ (by rw [hf]; exact hj), e]; rfl
  | z :: l, i + 1, j, x, y, v, h, hj, e => by
    rw [rowsC, List.set_append_right _ _ (by rw [hf, Nat.add_mul]; omega), hf, show (i + 1) * c + j - c = i * c + j by rw [Nat.add_mul]; omega]
    rw [rowsC_set hf l i j x y v (by simpa using h) hj e]; rfl
theorem memC_len (m : Mem) : (memC m).length = 3 := rfl
theorem loanC_len (l : Loan) : (loanC l).length = 3 := rfl
/-- a small letter -/
def lowB (b : UInt8) : Bool := decide (97 ≤ b.toNat) && decide (b.toNat ≤ 122)
def namedB (s : ByteArray) : Bool := s.data.toList.all lowB && decide (0 < s.size) && decide (s.size ≤ 12)
/-- the place of a name among the members; their number, if it is not there -/
def findM (nm : ByteArray) : List Mem → Nat
  | [] => 0
  | m :: l => if m.nm = nm then 0 else findM nm l + 1
theorem findM_le (nm : ByteArray) : ∀ l, findM nm l ≤ l.length
  | [] => Nat.le_refl _
  | m :: l => by have := findM_le nm l; rw [findM, List.length_cons]; split <;> omega
structure HSt where
  M : List Mem
  L : List Loan
end Go.Proofs.Ytjplnkkcmkpkbaa
/- Contracts of package hall: named, find, tickets, Names. -/
namespace Go.Proofs.Ytjplnkkcmkpkbaa
open Go.RowKit

def byA (s : ByteArray) (i : Nat) : UInt8 := s.data.toList.getD i 0
theorem toBytes (s : ByteArray) (w : World) : ∃ N C W, Sem.run Try.prog (convert 9 101 (.string s)) w = .ok (.slice (some ⟨N, 0, none⟩) s.size C) W ∧ Fr w W [] ∧ ∀ j, j < s.size → W.cell? ⟨N, j, none⟩ = some (.int .u8 ((byA s j).toNat : Nat)) := by
  refine ⟨_, _, _, run_bytes_of_string w _ _ 5 s Try.underlying9 Try.underlying101 Try.underlying5, ?_, fun j hj => ?_⟩
  · have h1 := ((Fr.start w).drew).alloc (.cells (bytesRow s (grownCap w s.size 0 5)) 5 ((bytesRow s (grownCap w s.size 0 5)).size, (bytesRow s (grownCap w s.size 0 5)).size + 1))
    exact h1
  · have hN : w.heap.size = w.drew.heap.size := rfl
    unfold World.cell?
    have h0 : (w.drew.alloc (.cells (bytesRow s (grownCap w s.size 0 5)) 5 ((bytesRow s (grownCap w s.size 0 5)).size, (bytesRow s (grownCap w s.size 0 5)).size + 1))).heap[w.heap.size]? = some (.cells (bytesRow s (grownCap w s.size 0 5)) 5 ((bytesRow s (grownCap w s.size 0 5)).size, (bytesRow s (grownCap w s.size 0 5)).size + 1)) := by
      show (w.heap.push _)[w.heap.size]? = _
      simp
    simp only [h0]
    have hj' : j < s.data.size := hj
    simp [bytesRow, byA, Array.getElem?_append]
    rw [if_pos hj, Array.getElem?_eq_getElem hj']; rfl
theorem named_yes {s : ByteArray} (h : ∀ i, i < s.size → lowB (byA s i) = true) : namedB s = (decide (0 < s.size) && decide (s.size ≤ 12)) := by
  have : s.data.toList.all lowB = true := by
    rw [List.all_eq_true]
    intro x hx
    obtain ⟨i, hi, rfl⟩ := List.getElem_of_mem hx
    have hi' : i < s.size := by simpa using hi
    have := h i hi'
    unfold byA at this
    rw [List.getD_eq_getElem?_getD, List.getElem?_eq_getElem hi] at this
    exact this
  unfold namedB; rw [this, Bool.true_and]
theorem named_no {s : ByteArray} {i : Nat} (hi : i < s.size) (h : lowB (byA s i) = false) : namedB s = false := by
  have : s.data.toList.all lowB = false := by
    apply Bool.eq_false_iff.2
    intro ha
    rw [List.all_eq_true] at ha
    have hi' : i < s.data.toList.length := by simpa using hi
    have := ha _ (List.getElem_mem hi')
    unfold byA at h
    rw [List.getD_eq_getElem?_getD, List.getElem?_eq_getElem hi'] at h
    rw [show (some s.data.toList[i]).getD 0 = s.data.toList[i] from rfl] at h
    rw [h] at this; cases this
  unfold namedB; rw [this]; rfl
set_option maxRecDepth 100000 in
set_option maxHeartbeats 4000000 in
theorem halNamed (s : ByteArray) (w : World) (hs : s.size ≤ maxLen) :
    Calls Try.prog 42 #[.string s] w fun e w' => e = .returned (.bool (namedB s)) ∧ Fr w w' [] := by
  unfold maxLen at hs
  obtain ⟨N, C, W, hcv, hfr, hcell⟩ := toBytes s w
  have HF := Lib.hid hfr; have HC := Lib.hid hcell
  clear hfr hcell
  go_enter Try.func42, Try.ntmps42
  go_wp2_with fail
  clear hcv
  obtain ⟨n, hn⟩ : ∃ n, s.size = n := ⟨_, rfl⟩
  rw [hn] at hs ⊢
  have HN := Lib.hid hn
  clear hn
  go_loop [8] (fun i => ∃ k : Nat, k ≤ n ∧ i = .int .i64 k ∧ Hid (∀ j, j < k → lowB (byA s j) = true)) (fun i => n - (intOf i).toNat)
  case atStart => exact ⟨0, by omega, rfl, Lib.hid fun j hj => by omega⟩
  case round =>
    obtain ⟨k, hk, rfl, HB⟩ := hrel
    by_cases hlt : k < n
    · have c0 := HC.out k (by rw [HN.out]; exact hlt)
      have hb := (byA s k).toNat_lt
      have hlow : lowB (byA s k) = (decide (97 ≤ (byA s k).toNat) && decide ((byA s k).toNat ≤ 122)) := rfl
      have HLW := Lib.hid hlow
      clear hlow
      obtain ⟨b, hbe⟩ : ∃ b, (byA s k).toNat = b := ⟨_, rfl⟩
      rw [hbe] at c0 hb HLW
      clear hbe
      by_cases h1 : b < 97
      · have HNO := Lib.hid (named_no (by rw [HN.out]; exact hlt) (by rw [HLW.out]; simp; omega))
        have d1 : decide ((b : Int) < 97) = true := decide_eq_true (by omega)
        go_wp2_with fail
        go_ret
        exact ⟨by rw [HNO.out]; rfl, HF.out⟩
      · have d1 : decide ((b : Int) < 97) = false := decide_eq_false (by omega)
        by_cases h2 : 122 < b
        · have HNO := Lib.hid (named_no (by rw [HN.out]; exact hlt) (by rw [HLW.out]; simp; omega))
          have d2 : decide ((122 : Int) < (b : Int)) = true := decide_eq_true (by omega)
          go_wp2_with fail
          go_ret
          exact ⟨by rw [HNO.out]; rfl, HF.out⟩
        · have d2 : decide ((122 : Int) < (b : Int)) = false := decide_eq_false (by omega)
          have HOK : Hid (lowB (byA s k) = true) := Lib.hid (by rw [HLW.out]; simp; omega)
          go_wp2_with fail
          exact ⟨⟨k + 1, by omega, by simp, Lib.hid fun j hj => by
            by_cases e : j = k
            · rw [e]; exact HOK.out
            · exact HB.out j (by omega)⟩, by simp only [intOf]; omega⟩
    · obtain rfl : k = n := by omega
      have HY := Lib.hid (named_yes (s := s) (fun j hj => HB.out j (by rw [HN.out] at hj; exact hj)))
      rw [HN.out] at HY
      have e0 := HN.out
      rcases Nat.eq_zero_or_pos k with h0 | h0
      · subst h0
        go_wp2_with fail
        go_ret
        exact ⟨by rw [HY.out]; rfl, HF.out⟩
      · have d1 : decide ((0 : Int) < (k : Int)) = true := decide_eq_true (by omega)
        by_cases h12 : k ≤ 12
        · have d2 : decide ((k : Int) ≤ 12) = true := decide_eq_true (by omega)
          go_wp2_with fail
          go_ret
          exact ⟨by rw [HY.out]; simp; omega, HF.out⟩
        · have d2 : decide ((k : Int) ≤ 12) = false := decide_eq_false (by omega)
          go_wp2_with fail
          go_ret
          exact ⟨by rw [HY.out]; simp; omega, HF.out⟩
end Go.Proofs.Ytjplnkkcmkpkbaa
/- Contracts of package lottery, at tickets that are right. -/
namespace Go.Proofs.Ytjplnkkcmkpkbaa
open Go.RowKit

def isum : List Int → Int
  | [] => 0
  | x :: r => x + isum r
theorem isum_app : ∀ l m : List Int, isum (l ++ m) = isum l + isum m
  | [], m => by simp [isum]
  | x :: r, m => by rw [List.cons_append, isum, isum, isum_app r m]; omega
theorem isum_snoc (l : List Int) (x : Int) : isum (l ++ [x]) = isum l + x := by rw [isum_app]; simp [isum]
theorem isum_take (l : List Int) (k : Nat) (h : k < l.length) : isum (l.take (k + 1)) = isum (l.take k) + nth l k := by rw [take_nth l k h, isum_snoc]
theorem drop_nth (l : List Int) (k : Nat) (h : k < l.length) : l.drop k = nth l k :: l.drop (k + 1) := by
  rw [List.drop_eq_getElem_cons h]; simp [nth, h]
theorem isum_bd (m : Int) (l : List Int) (h : ∀ k, k < l.length → 0 ≤ nth l k ∧ nth l k ≤ m) : ∀ k, k ≤ l.length → 0 ≤ isum (l.take k) ∧ isum (l.take k) ≤ m * k
  | 0, _ => by simp [isum]
  | k + 1, hk => by
    have h1 := isum_bd m l h k (by omega)
    have h2 := h k (by omega)
    rw [isum_take l k (by omega)]
    have : m * ((k + 1 : Nat) : Int) = m * (k : Int) + m := by rw [Int.natCast_add, Int.mul_add]; simp
    omega

def TkOk (l : List Int) : Prop := l.length ≤ 8 ∧ ∀ k, k < l.length → 0 ≤ nth l k ∧ nth l k ≤ 100
theorem TkOk.sum {l : List Int} (h : TkOk l) (k : Nat) (hk : k ≤ l.length) : 0 ≤ isum (l.take k) ∧ isum (l.take k) ≤ 800 := by
  have := isum_bd 100 l h.2 k hk
  have := h.1
  omega

set_option maxHeartbeats 1000000 in
theorem lotChk (l : List Int) (n : Nat) (a : Option Addr) (cap : Nat) (w : World) (h : Sa w a (ints l)) (hn : l.length = n) (hp : TkOk l) :
    Calls Try.prog 50 #[.slice a n cap] w fun e w' => e = .returned (.int .i64 0) ∧ w = w' := by
  have hl := hp.1
  rw [hn] at hl
  have HN := Lib.hid hn; have HS := Lib.hid h; have HP := Lib.hid hp.2
  clear hn h hp
  go_enter Try.func50, Try.ntmps50
  go_wp2_with fail
  go_loop [10] (fun i => ∃ k : Nat, k ≤ n ∧ i = .int .i64 k) (fun i => n - (intOf i).toNat)
  case atStart => exact ⟨0, by omega, rfl⟩
  case round =>
    obtain ⟨k, hk, rfl⟩ := hrel
    by_cases hlt : k < n
    · obtain ⟨b, off, rfl, hb, hc⟩ := HS.out.int k (by rw [HN.out]; exact hlt)
      obtain ⟨p1, p2⟩ := HP.out k (by rw [HN.out]; exact hlt)
      obtain ⟨x, hx⟩ : ∃ x, nth l k = x := ⟨_, rfl⟩
      rw [hx] at hc p1 p2
      clear hx
      go_wp2_with fail
      exact ⟨⟨k + 1, by omega, by simp⟩, by simp only [intOf]; omega⟩
    · go_wp2_with fail
      go_ret
      exact ⟨rfl, rfl⟩

set_option maxHeartbeats 1000000 in
theorem lotAll (l : List Int) (n : Nat) (a : Option Addr) (cap : Nat) (w : World) (h : Sa w a (ints l)) (hn : l.length = n) (hp : TkOk l) :
    Calls Try.prog 49 #[.slice a n cap] w fun e w' => e = .returned (.tuple #[.int .i64 (isum l), .int .i64 0]) ∧ w = w' := by
  have hl := hp.1
  rw [hn] at hl
  have HN := Lib.hid hn; have HS := Lib.hid h; have HP := Lib.hid hp
  clear hn h hp
  go_enter Try.func49, Try.ntmps49
  go_wp2_with fail
  refine (lotChk l n _ _ _ HS.out HN.out HP.out).mono ?_; rintro e w' ⟨rfl, rfl⟩
  go_wp2_with fail
  go_loop [5, 15] (fun s i => ∃ k : Nat, k ≤ n ∧ i = .int .i64 k ∧ s = .int .i64 (isum (l.take k))) (fun _ i => n - (intOf i).toNat)
  case atStart => exact ⟨0, by omega, rfl, rfl⟩
  case round =>
    obtain ⟨k, hk, rfl, rfl⟩ := hrel
    by_cases hlt : k < n
    · obtain ⟨b, off, rfl, hb, hc⟩ := HS.out.int k (by rw [HN.out]; exact hlt)
      obtain ⟨p1, p2⟩ := HP.out.2 k (by rw [HN.out]; exact hlt)
      obtain ⟨s1, s2⟩ := HP.out.sum k (by rw [HN.out]; exact hk)
      have hs := Lib.hid (isum_take l k (by rw [HN.out]; exact hlt))
      obtain ⟨x, hx⟩ : ∃ x, nth l k = x := ⟨_, rfl⟩
      obtain ⟨S, hS⟩ : ∃ S, isum (l.take k) = S := ⟨_, rfl⟩
      rw [hx] at hc p1 p2
      rw [hS] at s1 s2 ⊢
      have HX := Lib.hid hx; have HSS := Lib.hid hS
      clear hx hS
      go_wp2_with fail
      exact ⟨⟨k + 1, by omega, by simp, by rw [hs.out, HSS.out, HX.out]⟩, by simp only [intOf]; omega⟩
    · have hkn : l.take k = l := List.take_of_length_le (by rw [HN.out]; omega)
      rw [hkn]
      go_wp2_with fail
      go_ret2
      exact ⟨rfl, rfl⟩

/-- who has the lot -/
def winL : List Int → Int → Nat
  | [], _ => 0
  | x :: r, lot => if x ≤ lot then winL r (lot - x) + 1 else 0

set_option maxHeartbeats 1000000 in
theorem lotWinner (l : List Int) (n : Nat) (a : Option Addr) (cap : Nat) (lot : Int) (w : World) (h : Sa w a (ints l)) (hn : l.length = n) (hp : TkOk l) (h0 : 0 ≤ lot) (h1 : lot < isum l) :
    Calls Try.prog 39 #[.slice a n cap, .int .i64 lot] w fun e w' => e = .returned (.tuple #[.int .i64 (winL l lot : Nat), .int .i64 0]) ∧ w = w' := by
  have hl := hp.1
  have hb := hp.sum l.length (Nat.le_refl _)
  rw [List.take_length] at hb
  rw [hn] at hl
  have HN := Lib.hid hn; have HS := Lib.hid h; have HP := Lib.hid hp; have H1 := Lib.hid h1
  obtain ⟨S, hS⟩ : ∃ S, isum l = S := ⟨_, rfl⟩
  rw [hS] at hb h1
  have HSS := Lib.hid hS
  clear hn h hp hS
  go_enter Try.func39, Try.ntmps39
  go_wp2_with fail
  refine (lotAll l n _ _ _ HS.out HN.out HP.out).mono ?_; rintro e w' ⟨rfl, rfl⟩
  rw [HSS.out]
  have q0 : (S == 0) = false := by rw [beq_eq_false_iff_ne]; omega
  go_wp2_with fail
  go_loop [1, 8] (fun lo i => ∃ (k : Nat) (t : Int), k ≤ n ∧ i = .int .i64 k ∧ lo = .int .i64 t ∧ 0 ≤ t ∧ t ≤ 800 ∧ t < isum (l.drop k) ∧ Hid (winL l lot = k + winL (l.drop k) t)) (fun _ i => n + 1 - (intOf i).toNat)
  case atStart => exact ⟨0, lot, by omega, rfl, rfl, h0, by omega, H1.out, Lib.hid (by simp)⟩
  case round =>
    obtain ⟨k, t, hk, rfl, rfl, t0, t1, t2, HW⟩ := hrel
    have hlt : k < n := by
      rcases Nat.lt_or_ge k n with h | h
      · exact h
      · rw [List.drop_of_length_le (by rw [HN.out]; exact h)] at t2
        simp [isum] at t2; omega
    obtain ⟨b, off, rfl, hbb, hc⟩ := HS.out.int k (by rw [HN.out]; exact hlt)
    obtain ⟨p1, p2⟩ := HP.out.2 k (by rw [HN.out]; exact hlt)
    have hd := drop_nth l k (by rw [HN.out]; exact hlt)
    have hw := HW.out
    rw [hd] at t2 hw
    obtain ⟨x, hx⟩ : ∃ x, nth l k = x := ⟨_, rfl⟩
    rw [hx] at hc p1 p2 t2 hw
    rw [isum] at t2
    rw [winL] at hw
    clear hx hd HW
    by_cases hxt : x ≤ t
    · rw [if_pos hxt] at hw
      have HW := Lib.hid hw
      have T2 := Lib.hid t2
      clear hw t2
      go_wp2_with fail
      exact ⟨⟨k + 1, t - x, by omega, by simp, rfl, by omega, by omega, by have := T2.out; omega, Lib.hid (by have := HW.out; omega)⟩, by simp only [intOf]; omega⟩
    · rw [if_neg hxt, Nat.add_zero] at hw
      have HW := Lib.hid hw
      clear hw t2
      go_wp2_with fail
      go_ret2
      exact ⟨by rw [HW.out]; rfl, rfl⟩

set_option maxHeartbeats 400000 in
theorem lotWinner0 (l : List Int) (n : Nat) (a : Option Addr) (cap : Nat) (lot : Int) (w : World) (h : Sa w a (ints l)) (hn : l.length = n) (hp : TkOk l) (h1 : isum l = 0) :
    Calls Try.prog 39 #[.slice a n cap, .int .i64 lot] w fun e w' => e = .returned (.tuple #[.int .i64 0, .int .i64 4]) ∧ w = w' := by
  have HN := Lib.hid hn; have HS := Lib.hid h; have HP := Lib.hid hp; have H1 := Lib.hid h1
  clear hn h hp h1
  go_enter Try.func39, Try.ntmps39
  go_wp2_with fail
  refine (lotAll l n _ _ _ HS.out HN.out HP.out).mono ?_; rintro e w' ⟨rfl, rfl⟩
  rw [H1.out]
  go_wp2_with fail
  go_ret2
  exact ⟨rfl, rfl⟩

/-! tickets of any numbers -/
def tkL (l : List Int) : List Int := (l.take 8).map (· % 21)
theorem tkL_len (l : List Int) : (tkL l).length = min 8 l.length := by simp [tkL]
theorem tkL_nth (l : List Int) (k : Nat) (h : k < (tkL l).length) : nth (tkL l) k = nth l k % 21 := by
  unfold tkL at h ⊢
  rw [List.length_map, List.length_take] at h
  have h1 : k < (l.take 8).length := by rw [List.length_take]; exact h
  rw [nth_map _ _ k h1, nth_take l 8 k (by omega)]
theorem tkL_ok (l : List Int) : TkOk (tkL l) := by
  refine ⟨by rw [tkL_len]; omega, fun k hk => ?_⟩
  rw [tkL_nth l k hk]; omega
theorem tkL_20 (l : List Int) (k : Nat) (hk : k < (tkL l).length) : 0 ≤ nth (tkL l) k ∧ nth (tkL l) k ≤ 20 := by
  rw [tkL_nth l k hk]; omega

def MadeSl (l : List Int) (w : World) (e : Ending) (w' : World) : Prop :=
  ∃ (ad : Option Addr) (n cp : Nat), e = .returned (.slice ad n cp) ∧ l.length = n ∧ n ≤ cp ∧ Fr w w' [⟨3, .slice ad n cp, ints l⟩]

end Go.Proofs.Ytjplnkkcmkpkbaa
