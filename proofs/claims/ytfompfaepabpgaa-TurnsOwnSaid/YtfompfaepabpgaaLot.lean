/- Contracts of package lottery, at tickets that are right. -/
import Derived.Test.YtfompfaepabpgaaArr3
namespace Go.Proofs.Ytfompfaepabpgaa
open Go.RowKit

def isum : List Int → Int
  | [] => 0
  | x :: r => x + isum r
theorem isum_app : ∀ l m : List Int, isum (l ++ m) = isum l + isum m
  | [], m => by simp [isum]
  | x :: r, m => by rw [List.cons_append, isum, isum, isum_app r m]; omega
theorem isum_snoc (l : List Int) (x : Int) : isum (l ++ [x]) = isum l + x := by rw [isum_app]; simp [isum]
theorem isum_take (l : List Int) (k : Nat) (h : k < l.length) : isum (l.take (k + 1)) = isum (l.take k) + nth l k := by rw [take_nth l k h, isum_snoc]
theorem drop_nth (l : List Int) (k : Nat) (h : k < l.length) : l.drop k = nth l k :: l.drop (k + 1) := by
  rw [List.drop_eq_getElem_cons h]; simp [nth, h]
theorem isum_bd (m : Int) (l : List Int) (h : ∀ k, k < l.length → 0 ≤ nth l k ∧ nth l k ≤ m) : ∀ k, k ≤ l.length → 0 ≤ isum (l.take k) ∧ isum (l.take k) ≤ m * k
  | 0, _ => by simp [isum]
  | k + 1, hk => by
    have h1 := isum_bd m l h k (by omega)
    have h2 := h k (by omega)
    rw [isum_take l k (by omega)]
    have : m * ((k + 1 : Nat) : Int) = m * (k : Int) + m := by rw [Int.natCast_add, Int.mul_add]; simp
    omega

def TkOk (l : List Int) : Prop := l.length ≤ 8 ∧ ∀ k, k < l.length → 0 ≤ nth l k ∧ nth l k ≤ 100
theorem TkOk.sum {l : List Int} (h : TkOk l) (k : Nat) (hk : k ≤ l.length) : 0 ≤ isum (l.take k) ∧ isum (l.take k) ≤ 800 := by
  have := isum_bd 100 l h.2 k hk
  have := h.1
  omega

set_option maxHeartbeats 1000000 in
theorem lotChk (l : List Int) (n : Nat) (a : Option Addr) (cap : Nat) (w : World) (h : Sa w a (ints l)) (hn : l.length = n) (hp : TkOk l) :
    Calls Try.prog 75 #[.slice a n cap] w fun e w' => e = .returned (.int .i64 0) ∧ w = w' := by
  have hl := hp.1
  rw [hn] at hl
  have HN := Lib.hid hn; have HS := Lib.hid h; have HP := Lib.hid hp.2
  clear hn h hp
  go_enter Try.func75, Try.ntmps75
  go_wp2_with fail
  go_loop [10] (fun i => ∃ k : Nat, k ≤ n ∧ i = .int .i64 k) (fun i => n - (intOf i).toNat)
  case atStart => exact ⟨0, by omega, rfl⟩
  case round =>
    obtain ⟨k, hk, rfl⟩ := hrel
    by_cases hlt : k < n
    · obtain ⟨b, off, rfl, hb, hc⟩ := HS.out.int k (by rw [HN.out]; exact hlt)
      obtain ⟨p1, p2⟩ := HP.out k (by rw [HN.out]; exact hlt)
      obtain ⟨x, hx⟩ : ∃ x, nth l k = x := ⟨_, rfl⟩
      rw [hx] at hc p1 p2
      clear hx
      go_wp2_with fail
      exact ⟨⟨k + 1, by omega, by simp⟩, by simp only [intOf]; omega⟩
    · go_wp2_with fail
      go_ret
      exact ⟨rfl, rfl⟩

set_option maxHeartbeats 1000000 in
theorem lotAll (l : List Int) (n : Nat) (a : Option Addr) (cap : Nat) (w : World) (h : Sa w a (ints l)) (hn : l.length = n) (hp : TkOk l) :
    Calls Try.prog 74 #[.slice a n cap] w fun e w' => e = .returned (.tuple #[.int .i64 (isum l), .int .i64 0]) ∧ w = w' := by
  have hl := hp.1
  rw [hn] at hl
  have HN := Lib.hid hn; have HS := Lib.hid h; have HP := Lib.hid hp
  clear hn h hp
  go_enter Try.func74, Try.ntmps74
  go_wp2_with fail
  refine (lotChk l n _ _ _ HS.out HN.out HP.out).mono ?_; rintro e w' ⟨rfl, rfl⟩
  go_wp2_with fail
  go_loop [5, 15] (fun s i => ∃ k : Nat, k ≤ n ∧ i = .int .i64 k ∧ s = .int .i64 (isum (l.take k))) (fun _ i => n - (intOf i).toNat)
  case atStart => exact ⟨0, by omega, rfl, rfl⟩
  case round =>
    obtain ⟨k, hk, rfl, rfl⟩ := hrel
    by_cases hlt : k < n
    · obtain ⟨b, off, rfl, hb, hc⟩ := HS.out.int k (by rw [HN.out]; exact hlt)
      obtain ⟨p1, p2⟩ := HP.out.2 k (by rw [HN.out]; exact hlt)
      obtain ⟨s1, s2⟩ := HP.out.sum k (by rw [HN.out]; exact hk)
      have hs := Lib.hid (isum_take l k (by rw [HN.out]; exact hlt))
      obtain ⟨x, hx⟩ : ∃ x, nth l k = x := ⟨_, rfl⟩
      obtain ⟨S, hS⟩ : ∃ S, isum (l.take k) = S := ⟨_, rfl⟩
      rw [hx] at hc p1 p2
      rw [hS] at s1 s2 ⊢
      have HX := Lib.hid hx; have HSS := Lib.hid hS
      clear hx hS
      go_wp2_with fail
      exact ⟨⟨k + 1, by omega, by simp, by rw [hs.out, HSS.out, HX.out]⟩, by simp only [intOf]; omega⟩
    · have hkn : l.take k = l := List.take_of_length_le (by rw [HN.out]; omega)
      rw [hkn]
      go_wp2_with fail
      go_ret2
      exact ⟨rfl, rfl⟩

/-- who has the lot -/
def winL : List Int → Int → Nat
  | [], _ => 0
  | x :: r, lot => if x ≤ lot then winL r (lot - x) + 1 else 0

set_option maxHeartbeats 1000000 in
theorem lotWinner (l : List Int) (n : Nat) (a : Option Addr) (cap : Nat) (lot : Int) (w : World) (h : Sa w a (ints l)) (hn : l.length = n) (hp : TkOk l) (h0 : 0 ≤ lot) (h1 : lot < isum l) :
    Calls Try.prog 47 #[.slice a n cap, .int .i64 lot] w fun e w' => e = .returned (.tuple #[.int .i64 (winL l lot : Nat), .int .i64 0]) ∧ w = w' := by
  have hl := hp.1
  have hb := hp.sum l.length (Nat.le_refl _)
  rw [List.take_length] at hb
  rw [hn] at hl
  have HN := Lib.hid hn; have HS := Lib.hid h; have HP := Lib.hid hp; have H1 := Lib.hid h1
  obtain ⟨S, hS⟩ : ∃ S, isum l = S := ⟨_, rfl⟩
  rw [hS] at hb h1
  have HSS := Lib.hid hS
  clear hn h hp hS
  go_enter Try.func47, Try.ntmps47
  go_wp2_with fail
  refine (lotAll l n _ _ _ HS.out HN.out HP.out).mono ?_; rintro e w' ⟨rfl, rfl⟩
  rw [HSS.out]
  have q0 : (S == 0) = false := by rw [beq_eq_false_iff_ne]; omega
  go_wp2_with fail
  go_loop [1, 8] (fun lo i => ∃ (k : Nat) (t : Int), k ≤ n ∧ i = .int .i64 k ∧ lo = .int .i64 t ∧ 0 ≤ t ∧ t ≤ 800 ∧ t < isum (l.drop k) ∧ Hid (winL l lot = k + winL (l.drop k) t)) (fun _ i => n + 1 - (intOf i).toNat)
  case atStart => exact ⟨0, lot, by omega, rfl, rfl, h0, by omega, H1.out, Lib.hid (by simp)⟩
  case round =>
    obtain ⟨k, t, hk, rfl, rfl, t0, t1, t2, HW⟩ := hrel
    have hlt : k < n := by
      rcases Nat.lt_or_ge k n with h | h
      · exact h
      · rw [List.drop_of_length_le (by rw [HN.out]; exact h)] at t2
        simp [isum] at t2; omega
    obtain ⟨b, off, rfl, hbb, hc⟩ := HS.out.int k (by rw [HN.out]; exact hlt)
    obtain ⟨p1, p2⟩ := HP.out.2 k (by rw [HN.out]; exact hlt)
    have hd := drop_nth l k (by rw [HN.out]; exact hlt)
    have hw := HW.out
    rw [hd] at t2 hw
    obtain ⟨x, hx⟩ : ∃ x, nth l k = x := ⟨_, rfl⟩
    rw [hx] at hc p1 p2 t2 hw
    rw [isum] at t2
    rw [winL] at hw
    clear hx hd HW
    by_cases hxt : x ≤ t
    · rw [if_pos hxt] at hw
      have HW := Lib.hid hw
      have T2 := Lib.hid t2
      clear hw t2
      go_wp2_with fail
      exact ⟨⟨k + 1, t - x, by omega, by simp, rfl, by omega, by omega, by have := T2.out; omega, Lib.hid (by have := HW.out; omega)⟩, by simp only [intOf]; omega⟩
    · rw [if_neg hxt, Nat.add_zero] at hw
      have HW := Lib.hid hw
      clear hw t2
      go_wp2_with fail
      go_ret2
      exact ⟨by rw [HW.out]; rfl, rfl⟩

set_option maxHeartbeats 400000 in
theorem lotWinner0 (l : List Int) (n : Nat) (a : Option Addr) (cap : Nat) (lot : Int) (w : World) (h : Sa w a (ints l)) (hn : l.length = n) (hp : TkOk l) (h1 : isum l = 0) :
    Calls Try.prog 47 #[.slice a n cap, .int .i64 lot] w fun e w' => e = .returned (.tuple #[.int .i64 0, .int .i64 4]) ∧ w = w' := by
  have HN := Lib.hid hn; have HS := Lib.hid h; have HP := Lib.hid hp; have H1 := Lib.hid h1
  clear hn h hp h1
  go_enter Try.func47, Try.ntmps47
  go_wp2_with fail
  refine (lotAll l n _ _ _ HS.out HN.out HP.out).mono ?_; rintro e w' ⟨rfl, rfl⟩
  rw [H1.out]
  go_wp2_with fail
  go_ret2
  exact ⟨rfl, rfl⟩

/-! tickets of any numbers -/
def tkL (l : List Int) : List Int := (l.take 8).map (· % 21)
theorem tkL_len (l : List Int) : (tkL l).length = min 8 l.length := by simp [tkL]
theorem tkL_nth (l : List Int) (k : Nat) (h : k < (tkL l).length) : nth (tkL l) k = nth l k % 21 := by
  unfold tkL at h ⊢
  rw [List.length_map, List.length_take] at h
  have h1 : k < (l.take 8).length := by rw [List.length_take]; exact h
  rw [nth_map _ _ k h1, nth_take l 8 k (by omega)]
theorem tkL_ok (l : List Int) : TkOk (tkL l) := by
  refine ⟨by rw [tkL_len]; omega, fun k hk => ?_⟩
  rw [tkL_nth l k hk]; omega
theorem tkL_20 (l : List Int) (k : Nat) (hk : k < (tkL l).length) : 0 ≤ nth (tkL l) k ∧ nth (tkL l) k ≤ 20 := by
  rw [tkL_nth l k hk]; omega

def MadeSl (l : List Int) (w : World) (e : Ending) (w' : World) : Prop :=
  ∃ (ad : Option Addr) (n cp : Nat), e = .returned (.slice ad n cp) ∧ l.length = n ∧ n ≤ cp ∧ Fr w w' [⟨3, .slice ad n cp, ints l⟩]

end Go.Proofs.Ytfompfaepabpgaa
