/- casttop.good and casttop.works. -/
import Derived.Test.YtdabgibmbmhmdaaOrd
import Derived.Test.YtdabgibmbmhmdaaRat3
namespace Go.Proofs.Ytdabgibmbmhmdaa
open Go.RowKit

theorem goodneqT (x : Int) (w : World) :
    Calls Try.prog 78 #[.int .i64 x] w fun e w' => e = .returned (.bool (x != 0)) ∧ w = w' := by
  go_enter Try.func78, Try.ntmps78
  go_wp2
  go_ret
  exact ⟨rfl, rfl⟩

set_option maxHeartbeats 1000000 in
theorem indexT (f : Nat → Int) (n b off cap : Nat) (w : World) (hl : n ≤ 1000000)
    (hc : ∀ i, i < n → w.cell? ⟨b, off + i, none⟩ = some (.int .i64 (f i))) :
    Calls Try.prog 98 #[.slice (some ⟨b, off, none⟩) n cap, .func (.func 78) #[] #[]] w
      (IdxSaid f n w) := by
  have HC := Lib.hid hc; clear hc
  go_enter Try.func98, Try.ntmps98
  go_wp2_with fail
  go_loop [8] (fun i => ∃ k : Nat, k ≤ n ∧ Hid (∀ i, i < k → f i = 0) ∧ i = .int .i64 k) (fun i => n - (intOf i).toNat)
  case atStart => exact ⟨0, Nat.zero_le _, Lib.hid (by intro i hi; omega), rfl⟩
  case round =>
    obtain ⟨k, hk, hz, rfl⟩ := hrel
    by_cases hlt : k < n
    · have hcell := HC.out k hlt
      cases hx : (f k != 0)
      · have HX := Lib.hid hx
        go_wp2_with (go_at_call 78; refine (goodneqT _ _).mono ?_; rintro e w' ⟨rfl, rfl⟩)
        go_round
        case rel =>
          refine ⟨k + 1, by omega, Lib.hid ?_, by go_num⟩
          intro i hi
          by_cases h : i = k
          · subst h; simpa using HX.out
          · exact hz.out i (by omega)
        case measure => simp [intOf]; omega
      · have HX := Lib.hid hx
        go_wp2_with (go_at_call 78; refine (goodneqT _ _).mono ?_; rintro e w' ⟨rfl, rfl⟩)
        go_ret
        exact ⟨k, rfl, .inr ⟨by omega, by omega, k, hlt, by simpa using HX.out⟩, rfl⟩
    · obtain rfl : k = n := by omega
      go_wp2_with fail
      go_ret
      exact ⟨-1, rfl, .inl ⟨rfl, hz.out⟩, rfl⟩

set_option maxHeartbeats 400000 in
theorem containsT (f : Nat → Int) (n b off cap : Nat) (w : World) (hl : n ≤ 1000000)
    (hc : ∀ i, i < n → w.cell? ⟨b, off + i, none⟩ = some (.int .i64 (f i))) :
    Calls Try.prog 65 #[.slice (some ⟨b, off, none⟩) n cap, .func (.func 78) #[] #[]] w
      fun e w' => ∃ r : Bool, e = .returned (.bool (!r)) ∧ IffAll r f n ∧ w = w' := by
  have HC := Lib.hid hc; clear hc
  go_enter Try.func65, Try.ntmps65
  go_wp2_with fail
  refine (indexT f n b off cap w hl HC.out).mono ?_
  rintro e w' ⟨r, rfl, hr, rfl⟩
  rcases hr with ⟨hr, hz⟩ | ⟨hr, hr2, i, hi, hne⟩
  · have HZ := Lib.hid hz; clear hz
    subst hr
    go_wp2_with fail
    go_ret
    exact ⟨true, rfl, ⟨fun _ => HZ.out, fun _ => rfl⟩, rfl⟩
  · have HI : Hid (i < n ∧ f i ≠ 0) := Lib.hid ⟨hi, hne⟩; clear hi hne
    go_wp2_with fail
    go_ret
    exact ⟨false, rfl, ⟨fun h => by simp at h, fun h => absurd (h i HI.out.1) HI.out.2⟩, rfl⟩

set_option maxHeartbeats 400000 in
theorem goodT_said (f : Nat → Int) (n b off cap : Nat) (w : World) (hl : n ≤ 1000000)
    (hc : ∀ i, i < n → w.cell? ⟨b, off + i, none⟩ = some (.int .i64 (f i))) :
    Calls Try.prog 32 #[.slice (some ⟨b, off, none⟩) n cap] w (GoodSaid f n w) := by
  have HC := Lib.hid hc; clear hc
  go_enter Try.func32, Try.ntmps32
  go_wp2_with fail
  refine (containsT f n b off cap w hl HC.out).mono ?_
  rintro e w' ⟨r, rfl, hr, rfl⟩
  cases r
  all_goals
    go_wp2_with fail
    go_ret
  · exact ⟨false, rfl, hr, rfl⟩
  · exact ⟨true, rfl, hr, rfl⟩

/-- all errors are nil -/
theorem goodT_yes (n b off cap : Nat) (w : World) (hl : n ≤ 1000000)
    (hc : ∀ i, i < n → w.cell? ⟨b, off + i, none⟩ = some (.int .i64 0)) :
    Calls Try.prog 32 #[.slice (some ⟨b, off, none⟩) n cap] w fun e w' => e = .returned (.bool true) ∧ w = w' :=
  (goodT_said (fun _ => 0) n b off cap w hl hc).mono fun _ _ ⟨r, he, hr, hw⟩ => ⟨by rw [he, hr.2 (fun _ _ => rfl)], hw⟩

theorem goodT (n : Nat) (w : World) (b : Nat) (T : TypeId) (hb : w.heap.size = b) (cs : Array Value) (hcs : cs.toList = ints (List.replicate n 0)) (hn : n ≤ 1000) :
    Calls Try.prog 32 #[.slice (some ⟨b, 0, none⟩) n n] (w.alloc (.cells cs T)) fun e w' => e = .returned (.bool true) ∧ w.alloc (.cells cs T) = w' := by
  subst hb
  refine goodT_yes n w.heap.size 0 n _ (by omega) (fun i hi => ?_)
  rw [cell_new, ← Array.getElem?_toList, hcs, ints_get _ _ (by simpa using hi), nth_rep _ _ _ hi]

set_option maxRecDepth 100000 in
set_option maxHeartbeats 1000000 in
theorem works_any (w : World) : Calls Try.prog 31 #[] w fun e w' => e = .returned (.bool true) ∧ Below w.heap.size w w' := by
  go_enter Try.func31, Try.ntmps31
  go_wp2_with fail
  have F1 := (Fr.start w).lit p120 #[.int .i64 1, .int .i64 2, .int .i64 0] rfl 3 rfl (by omega) 3
  refine (order120 _ _ _ (F1.get 0 rfl)).mono ?_; rintro e w1 ⟨rfl, hb⟩
  have F2 := F1.below.keep hb
  clear F1 hb
  go_wp2_with fail
  have g : redP (1 * 3 + 1 * 2) (2 * 3) = 5 ∧ redQ (1 * 3 + 1 * 2) (2 * 3) = 6 := by decide
  refine (add_any 1 2 1 3 _ (by unfold Rat1; decide) (by unfold Rat1; decide)).mono ?_; rintro e w2 ⟨X, Y, er, rfl, hl, hb⟩
  obtain ⟨rfl, rfl, rfl⟩ : er = 0 ∧ X = 5 ∧ Y = 6 := by
    rcases hl with ⟨h1, _, _, h2, h3⟩ | ⟨_, _, _, h⟩
    · exact ⟨h1, h2.trans g.1, h3.trans g.2⟩
    · exfalso; apply h; rw [g.1, g.2]; omega
  clear g hl
  have F3 := F2.keep hb
  clear F2 hb
  have F4 := Lib.hid (F3.alloc (.cells #[.int .i64 5, .int .i64 6] 40))
  clear F3
  go_wp2_with fail
  go_ret
  exact ⟨rfl, F4.out.bel⟩
end Go.Proofs.Ytdabgibmbmhmdaa
