/- The walk of the law RisesTurned. -/
import Derived.Test.YtdabgibmbmhmdaaRisM
import Derived.Test.YtdabgibmbmhmdaaCyc2
import Derived.Test.YtdabgibmbmhmdaaSlFn2
import Derived.Test.YtdabgibmbmhmdaaGood
namespace Go.Proofs.Ytdabgibmbmhmdaa
open Go.RowKit

set_option maxRecDepth 100000 in
set_option maxHeartbeats 2000000 in
theorem falls_any (p : List Int) (n : Nat) (a : Option Addr) (cap : Nat) (w : World) (h : Sa w a (ints p)) (hn : p.length = n) (hp : IsP p) (h10 : n ≤ 10) :
    Calls Try.prog 22 #[.slice a n cap] w fun e w' => e = .returned (.tuple #[.int .i64 (fallN p (n - 1) : Nat), .int .i64 0]) ∧ Below w.heap.size w w' := by
  have HS := Lib.hid h; have HN := Lib.hid hn; have HP := Lib.hid hp
  clear h hn hp
  go_enter Try.func22, Try.ntmps22
  go_wp2_with fail
  refine (permChk p n _ _ _ HS.out HN.out HP.out h10).mono ?_; rintro e w1 ⟨rfl, F1⟩
  have HF1 := Lib.hid F1
  clear F1
  go_wp2_with fail
  go_loopw [5, 6] (fun s i wr => ∃ j : Nat, (j = 0 ∨ j + 1 ≤ n) ∧ i = .int .i64 ((j + 1 : Nat) : Int) ∧ s = .int .i64 (fallN p j : Nat) ∧ Fr w wr []) (fun _ i _ => n - (intOf i).toNat)
  case atStart => exact ⟨0, by omega, rfl, rfl, HF1.out⟩
  case round =>
    obtain ⟨j, hj, rfl, rfl, hfr⟩ := hrel
    by_cases hlt : j + 1 < n
    · obtain ⟨b1, o1, rfl, hb1, c1⟩ := (hfr.old HS.out).int (j + 1) (by rw [HN.out]; exact hlt)
      obtain ⟨_, _, e, _, c2⟩ := (hfr.old HS.out).int j (by rw [HN.out]; omega)
      cases e
      have hst : fallN p (j + 1) = fallN p j + if nth p (j + 1) < nth p j then 1 else 0 := rfl
      have hb : fallN p j ≤ j := by
        have := sumN_le (F := fun i => if nth p (i + 1) < nth p i then 1 else 0) (G := fun _ => 1) j (fun i _ => by show (if nth p (i + 1) < nth p i then 1 else 0) ≤ 1; split <;> omega)
        rw [sumN_one] at this; exact this
      generalize fallN p j = S at *
      obtain ⟨x, hx⟩ : ∃ x, nth p (j + 1) = x := ⟨_, rfl⟩
      obtain ⟨y, hy⟩ : ∃ y, nth p j = y := ⟨_, rfl⟩
      rw [hx] at c1 hst
      rw [hy] at c2 hst
      have e0 : (j : Int) + 1 - 1 = (j : Int) := by omega
      have e1 : (0 : Int) ≤ (j : Int) := by omega
      have e2 : (j : Int) < (n : Int) := by omega
      have e3 : (0 : Int) ≤ (j : Int) + 1 := by omega
      have e4 : (j : Int) + 1 < (n : Int) := by omega
      have HF := Lib.hid hfr
      rw [show ((j + 1 : Nat) : Int) = (j : Int) + 1 from by omega]
      clear hx hy hfr
      by_cases hxy : x < y
      · rw [if_pos hxy] at hst
        have q : decide (x < y) = true := decide_eq_true hxy
        have HST := Lib.hid hst
        clear hst hxy
        go_wp2_with fail
        go_quiet (fail)
        go_wp2_with fail
        exact ⟨⟨j + 1, by omega, by simp, by rw [HST.out]; simp, HF.out.drewN _⟩, by simp only [intOf]; omega⟩
      · rw [if_neg hxy] at hst
        have q : decide (x < y) = false := decide_eq_false hxy
        have HST := Lib.hid hst
        clear hst hxy
        go_wp2_with fail
        go_quiet (fail)
        go_wp2_with fail
        exact ⟨⟨j + 1, by omega, by simp, by rw [HST.out]; simp, HF.out.drewN _⟩, by simp only [intOf]; omega⟩
    · have hjn : j = n - 1 := by omega
      have HJ := Lib.hid hjn
      have HB := Lib.hid hfr.bel
      have g : decide (((j + 1 : Nat) : Int) < (n : Int)) = false := decide_eq_false (by omega)
      clear hjn hfr
      go_wp2_with fail
      go_ret2
      exact ⟨by rw [← HJ.out]; rfl, HB.out⟩

theorem run_max0 (ts : Array TypeId) (t : TypeId) (n g : Nat) (h : n - 1 = g) (w : World) :
    Sem.run Try.prog (Builtin.max_ ts t #[.int .i64 0, .int .i64 ((n : Int) - 1)]) w = .ok (.int .i64 (g : Int)) w := by
  simp only [Builtin.max_, List.foldlM_cons, List.foldlM_nil, Builtin.max2, pure_bind]
  rw [show (if (0 : Int) < (n : Int) - 1 then (n : Int) - 1 else 0) = (g : Int) from by split <;> omega]
  rfl
theorem sgP_even {p : List Int} : sgP p = 1 ↔ invN p % 2 = 0 := by
  unfold sgP
  constructor
  · intro h; split at h
    · omega
    · omega
  · intro h; rw [if_neg (by omega)]
set_option maxRecDepth 100000 in
set_option maxHeartbeats 8000000 in
theorem risesTurned_any (x : List Int) (nx : Nat) (a : Option Addr) (ca : Nat) (w : World) (h : Sa w a (ints x)) (hn : x.length = nx) (hc : nx ≤ ca) (hm : nx ≤ maxLen) :
    Calls Try.prog 5 #[.slice a nx ca] w fun e w' => e = .returned (.bool true) ∧ Below w.heap.size w w' := by
  have HN := Lib.hid hn; have HS := Lib.hid h; have HM := Lib.hid hm
  have HP := Lib.hid (show IsP [2, 0, 1] from isP_lit _ (by decide) (by decide))
  have E1 : Hid (fallN [2, 0, 1] (3 - 1) = 1) := Lib.hid (by decide)
  clear hn h hm
  go_enter Try.func5, Try.ntmps5
  go_wp2_with fail
  have F1 := (Fr.start w).lit [2, 0, 1] #[.int .i64 2, .int .i64 0, .int .i64 1] rfl 3 rfl (by omega) 3
  refine (falls_any [2, 0, 1] 3 _ _ _ (F1.get 0 rfl) rfl HP.out (by omega)).mono ?_; rintro e w0 ⟨rfl, hb⟩
  rw [E1.out]
  have F4 := Lib.hid (F1.below.keep hb)
  clear F1 hb
  go_wp2_with fail
  refine (permOf_any x nx _ _ 10 _ (F4.out.old HS.out) HN.out hc HM.out (by omega)).mono ?_; rintro e w3 ⟨ad3, n, cp3, rfl, hn3, hc3, hf⟩
  have F5 := Lib.hid (F4.out.call hf)
  clear F4 hf
  obtain ⟨lA, pA⟩ := permL_ok x 10
  have n10 : n ≤ 10 := by omega
  have PA := Lib.hid pA; have LA : Hid ((permL x 10).length = n) := Lib.hid hn3
  clear pA lA hn3
  generalize permL x 10 = A at *
  have VA := Lib.hid (inv_isP PA.out); have LVA : Hid ((invL A).length = n) := Lib.hid (by rw [invL_len, LA.out])
  have PB := Lib.hid (rev_isP PA.out); have LB : Hid (A.reverse.length = n) := Lib.hid (by rw [List.length_reverse, LA.out])
  have M1 : Hid (fallN A (n - 1) + fallN A.reverse (n - 1) = n - 1) := Lib.hid (by have := fall_rev PA.out; rwa [LA.out] at this)
  have M2 : Hid (2 * (crossK A n + crossK A.reverse n) + n = n * n) := Lib.hid (by have := cross_rev PA.out; rwa [LA.out] at this)
  have M3 : Hid (crossK (invL A) n = crossK A n) := Lib.hid (by have := cross_inv PA.out; rwa [LA.out] at this)
  have M4 : Hid (sgP A = 1 ↔ crossK A n % 2 = 0) := Lib.hid (by have := cross_N A; rw [LA.out] at this; rw [this]; exact sgP_even)
  have M5 : Hid (crossK A n ≤ 100 ∧ crossK A.reverse n ≤ 100) := Lib.hid (by
    have h1 := crossK_le A n; have h2 := crossK_le A.reverse n
    have h3 : n * n ≤ 10 * 10 := Nat.mul_le_mul n10 n10
    omega)
  have n6 : n ≤ 1000000 := by omega
  go_wp2_with fail
  refine (slClone A n _ _ _ (F5.out.get 0 rfl) LA.out (by omega)).mono ?_; rintro e w5 ⟨ad, cp, rfl, hcp, hf⟩
  have F6 := Lib.hid (F5.out.call hf)
  clear hf F5
  go_wp2_with fail
  refine (slReverseAll A n cp ad _ _ F6.out n6).mono ?_; rintro e w6 ⟨rfl, hf⟩
  have F7 := Lib.hid hf
  clear hf F6
  go_wp2_with fail
  refine (falls_any A n _ _ _ (F7.out.get 1 rfl) LA.out PA.out n10).mono ?_; rintro e w7 ⟨rfl, hb⟩
  have F8 := Lib.hid (F7.out.keep hb)
  clear F7 hb
  go_wp2_with fail
  refine (falls_any A.reverse n _ _ _ (F8.out.get 0 rfl) LB.out PB.out n10).mono ?_; rintro e w8 ⟨rfl, hb⟩
  have F9 := Lib.hid (F8.out.keep hb)
  clear F8 hb
  go_wp2_with fail
  refine (crossed A n _ _ _ (F9.out.get 1 rfl) LA.out PA.out n10 hc3).mono ?_; rintro e w9 ⟨rfl, hb⟩
  have F10 := Lib.hid (F9.out.keep hb)
  clear F9 hb
  go_wp2_with fail
  refine (crossed A.reverse n _ _ _ (F10.out.get 0 rfl) LB.out PB.out n10 hcp).mono ?_; rintro e w10 ⟨rfl, hb⟩
  have F11 := Lib.hid (F10.out.keep hb)
  clear F10 hb
  go_wp2_with fail
  refine (permInv A n _ _ _ (F11.out.get 1 rfl) LA.out PA.out n10).mono ?_; rintro e w11 ⟨ad11, cp11, rfl, hc11, hf⟩
  have F12 := Lib.hid (F11.out.call hf)
  clear F11 hf
  go_wp2_with fail
  refine (crossed (invL A) n _ _ _ (F12.out.get 0 rfl) LVA.out VA.out n10 hc11).mono ?_; rintro e w12 ⟨rfl, hb⟩
  rw [M3.out]
  have F13 := Lib.hid (F12.out.keep hb)
  clear F12 hb M3
  go_wp2_with fail
  refine (sign_any A n _ _ _ (F13.out.get 2 rfl) LA.out PA.out n10).mono ?_; rintro e w13 ⟨rfl, hb⟩
  have F14 := Lib.hid (F13.out.keep hb)
  clear F13 hb
  obtain ⟨f1, h1⟩ : ∃ f, fallN A (n - 1) = f := ⟨_, rfl⟩
  obtain ⟨f2, h2⟩ : ∃ f, fallN A.reverse (n - 1) = f := ⟨_, rfl⟩
  obtain ⟨c1, h3⟩ : ∃ f, crossK A n = f := ⟨_, rfl⟩
  obtain ⟨c2, h4⟩ : ∃ f, crossK A.reverse n = f := ⟨_, rfl⟩
  have m1 := M1.out; have m2 := M2.out; have m4 := M4.out; have m5 := M5.out
  rw [h1, h2] at m1
  rw [h3, h4] at m2 m5
  rw [h3] at m4
  rw [h1, h2, h3, h4]
  clear h1 h2 h3 h4 M1 M2 M4 M5
  obtain ⟨m51, m52⟩ := m5
  obtain ⟨g, hg⟩ : ∃ g, n - 1 = g := ⟨_, rfl⟩
  have hmax : ∀ W, Sem.run Try.prog (Builtin.max_ #[3, 3] 3 #[.int .i64 0, .int .i64 ((n : Int) - 1)]) W = .ok (.int .i64 (g : Int)) W := fun W => run_max0 _ _ n g hg W
  have e1 : (f1 : Int) + (f2 : Int) = (g : Int) := by omega
  obtain ⟨q, hq⟩ : ∃ q, n * (n - 1) = q := ⟨_, rfl⟩
  have hq2 : q + n = n * n := by
    rw [← hq]
    rcases n with _ | n
    · rfl
    · rw [Nat.add_sub_cancel, Nat.mul_add]; omega
  have e2 : (n : Int) * ((n : Int) - 1) = (q : Int) := by
    rw [← hq]
    rcases n with _ | n
    · rfl
    · rw [Nat.add_sub_cancel]; simp
  have e3 : (q : Int) / 2 = (c1 : Int) + (c2 : Int) := by omega
  have qb : q ≤ 1000 := by omega
  have gb : g ≤ 10 := by omega
  have q1 : ((c1 : Int) == (c1 : Int)) = true := by simp
  have hs2 : sgP A = 1 ∨ sgP A = -1 := by unfold sgP; split <;> omega
  obtain ⟨s, hs⟩ : ∃ s, sgP A = s := ⟨_, rfl⟩
  rw [hs] at m4 hs2 ⊢
  clear hs hq hq2 hg m1 m2
  rcases hs2 with rfl | rfl
  · have e4 : (c1 : Int) % 2 = 0 := by have := m4.1 rfl; omega
    clear m4
    go_wp2_with fail
    refine (good7b _ _ _ rfl).mono ?_; rintro e w' ⟨rfl, rfl⟩
    have F15 := Lib.hid (F14.out.alloc (.cells #[.int .i64 0, .int .i64 0, .int .i64 0, .int .i64 0, .int .i64 0, .int .i64 0, .int .i64 0] 23))
    go_wp2_with fail
    go_ret
    exact ⟨by simp, F15.out.bel⟩
  · have e4 : (c1 : Int) % 2 = 1 := by
      have : ¬ c1 % 2 = 0 := fun e => by have := m4.2 e; omega
      omega
    clear m4
    go_wp2_with fail
    refine (good7b _ _ _ rfl).mono ?_; rintro e w' ⟨rfl, rfl⟩
    have F15 := Lib.hid (F14.out.alloc (.cells #[.int .i64 0, .int .i64 0, .int .i64 0, .int .i64 0, .int .i64 0, .int .i64 0, .int .i64 0] 23))
    go_wp2_with fail
    go_ret
    exact ⟨by simp, F15.out.bel⟩
end Go.Proofs.Ytdabgibmbmhmdaa
