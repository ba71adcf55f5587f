/- Contracts of package lottery, at tickets that are right. -/
import Derived.Test.YtgblmbhbbjgdiaaArr3
namespace Go.Proofs.Ytgblmbhbbjgdiaa
open Go.RowKit

def isum : List Int → Int
  | [] => 0
  | x :: r => x + isum r
theorem isum_app : ∀ l m : List Int, isum (l ++ m) = isum l + isum m
  | [], m => by simp [isum]
  | x :: r, m => by rw [List.cons_append, isum, isum, isum_app r m]; omega
theorem isum_snoc (l : List Int) (x : Int) : isum (l ++ [x]) = isum l + x := by rw [isum_app]; simp [isum]
theorem isum_take (l : List Int) (k : Nat) (h : k < l.length) : isum (l.take (k + 1)) = isum (l.take k) + nth l k := by rw [take_nth l k h, isum_snoc]
theorem drop_nth (l : List Int) (k : Nat) (h : k < l.length) : l.drop k = nth l k :: l.drop (k + 1) := by
  rw [List.drop_eq_getElem_cons h]; simp [nth, h]
theorem isum_bd (m : Int) (l : List Int) (h : ∀ k, k < l.length → 0 ≤ nth l k ∧ nth l k ≤ m) : ∀ k, k ≤ l.length → 0 ≤ isum (l.take k) ∧ isum (l.take k) ≤ m * k
  | 0, _ => by simp [isum]
  | k + 1, hk => by
    have h1 := isum_bd m l h k (by omega)
    have h2 := h k (by omega)
    rw [isum_take l k (by omega)]
    have : m * ((k + 1 : Nat) : Int) = m * (k : Int) + m := by rw [Int.natCast_add, Int.mul_add]; simp
    omega

def TkOk (l : List Int) : Prop := l.length ≤ 8 ∧ ∀ k, k < l.length → 0 ≤ nth l k ∧ nth l k ≤ 100
theorem TkOk.sum {l : List Int} (h : TkOk l) (k : Nat) (hk : k ≤ l.length) : 0 ≤ isum (l.take k) ∧ isum (l.take k) ≤ 800 := by
  have := isum_bd 100 l h.2 k hk
  have := h.1
  omega

set_option maxHeartbeats 1000000 in
theorem lotChk (l : List Int) (n : Nat) (a : Option Addr) (cap : Nat) (w : World) (h : Sa w a (ints l)) (hn : l.length = n) (hp : TkOk l) :
    Calls Try.prog 51 #[.slice a n cap] w fun e w' => e = .returned (.int .i64 0) ∧ w = w' := by
  have hl := hp.1
  rw [hn] at hl
  have HN := Lib.hid hn; have HS := Lib.hid h; have HP := Lib.hid hp.2
  clear hn h hp
  go_enter Try.func51, Try.ntmps51
  go_wp2_with fail
  go_loop [10] (fun i => ∃ k : Nat, k ≤ n ∧ i = .int .i64 k) (fun i => n - (intOf i).toNat)
  case atStart => exact ⟨0, by omega, rfl⟩
  case round =>
    obtain ⟨k, hk, rfl⟩ := hrel
    by_cases hlt : k < n
    · obtain ⟨b, off, rfl, hb, hc⟩ := HS.out.int k (by rw [HN.out]; exact hlt)
      obtain ⟨p1, p2⟩ := HP.out k (by rw [HN.out]; exact hlt)
      obtain ⟨x, hx⟩ : ∃ x, nth l k = x := ⟨_, rfl⟩
      rw [hx] at hc p1 p2
      clear hx
      go_wp2_with fail
      exact ⟨⟨k + 1, by omega, by simp⟩, by simp only [intOf]; omega⟩
    · go_wp2_with fail
      go_ret
      exact ⟨rfl, rfl⟩

/-- who has the lot -/
def winL : List Int → Int → Nat
  | [], _ => 0
  | x :: r, lot => if x ≤ lot then winL r (lot - x) + 1 else 0

def tkL (l : List Int) : List Int := (l.take 8).map (· % 21)
theorem tkL_len (l : List Int) : (tkL l).length = min 8 l.length := by simp [tkL]
theorem tkL_nth (l : List Int) (k : Nat) (h : k < (tkL l).length) : nth (tkL l) k = nth l k % 21 := by
  unfold tkL at h ⊢
  rw [List.length_map, List.length_take] at h
  have h1 : k < (l.take 8).length := by rw [List.length_take]; exact h
  rw [nth_map _ _ k h1, nth_take l 8 k (by omega)]
theorem tkL_ok (l : List Int) : TkOk (tkL l) := by
  refine ⟨by rw [tkL_len]; omega, fun k hk => ?_⟩
  rw [tkL_nth l k hk]; omega
theorem tkL_20 (l : List Int) (k : Nat) (hk : k < (tkL l).length) : 0 ≤ nth (tkL l) k ∧ nth (tkL l) k ≤ 20 := by
  rw [tkL_nth l k hk]; omega

def MadeSl (l : List Int) (w : World) (e : Ending) (w' : World) : Prop :=
  ∃ (ad : Option Addr) (n cp : Nat), e = .returned (.slice ad n cp) ∧ l.length = n ∧ n ≤ cp ∧ Fr w w' [⟨3, .slice ad n cp, ints l⟩]

end Go.Proofs.Ytgblmbhbbjgdiaa
