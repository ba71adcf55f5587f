/- The walk of the law ChainRest. -/
import Derived.Test.YtghobphnjfgjeaaCha3
import Derived.Test.YtghobphnjfgjeaaMats
import Derived.Test.YtghobphnjfgjeaaSlEq2
import Derived.Test.YtghobphnjfgjeaaGood
import Derived.Test.YtghobphnjfgjeaaSlMM
namespace Go.Proofs.Ytghobphnjfgjeaa
open Go.RowKit

theorem Sa.litN (w : World) (cs : Array Value) (T : TypeId) (xs : List Value) (e : cs.toList = xs) : Sa (w.alloc (.cells cs T)) (some ⟨w.heap.size, 0, .none⟩) xs := by
  subst e
  intro h0
  refine ⟨w.heap.size, 0, rfl, by simp, fun i hi => ?_⟩
  rw [cell_new]; simp
theorem Sa.litN' (w : World) (cs : Array Value) (T : TypeId) (xs : List Value) (e : cs.toList = xs) (N : Nat) (hN : w.heap.size = N) : Sa (w.alloc (.cells cs T)) (some ⟨N, 0, .none⟩) xs := by subst hN; exact Sa.litN w cs T xs e
/-- a literal of two rows of two -/
theorem Mx.two (w : World) (x y u v : Int) : Mx (((w.alloc (.cells #[.int .i64 x, .int .i64 y] 3)).alloc (.cells #[.int .i64 u, .int .i64 v] 3)).alloc (.cells #[.slice (some ⟨w.heap.size, 0, .none⟩) 2 2, .slice (some ⟨w.heap.size + 1, 0, .none⟩) 2 2] 35)) (some ⟨w.heap.size + 1 + 1, 0, .none⟩)
    [(some ⟨w.heap.size, 0, .none⟩, 2, [x, y]), (some ⟨w.heap.size + 1, 0, .none⟩, 2, [u, v])] := by
  refine ⟨Sa.litN' _ _ _ _ rfl _ (by simp), fun p hp => ?_⟩
  rcases List.mem_cons.1 hp with rfl | hp
  · exact ((Sa.litN w #[.int .i64 x, .int .i64 y] 3 (ints [x, y]) rfl).alloc _).alloc _
  · rw [List.mem_singleton] at hp
    subst hp
    exact (Sa.litN' _ #[.int .i64 u, .int .i64 v] 3 (ints [u, v]) rfl _ (by simp)).alloc _
set_option maxRecDepth 100000 in
set_option maxHeartbeats 1000000 in
theorem chains_any (w : World) : Calls Try.prog 34 #[] w fun e w' => e = .returned (.bool true) ∧ Below w.heap.size w w' := by
  have q1 : chkC [[0, 1], [3, 0]] = 0 := by decide +kernel
  have q2 : someT [[0, 1], [3, 0]] 2 2 = true := by decide +kernel
  have q3 : restL [[0, 1], [3, 0]] 2 = [3, 1] := by decide +kernel
  have Q1 := Lib.hid q1; have Q2 := Lib.hid q2; have Q3 := Lib.hid q3
  clear q1 q2 q3
  go_enter Try.func34, Try.ntmps34
  go_wp2_with fail
  have F1 := (((Fr.start w).alloc (.cells #[.int .i64 0, .int .i64 1] 3)).alloc (.cells #[.int .i64 3, .int .i64 0] 3)).alloc (.cells #[.slice (some ⟨w.heap.size, 0, .none⟩) 2 2, .slice (some ⟨w.heap.size + 1, 0, .none⟩) 2 2] 35)
  refine (chaRest [(some ⟨w.heap.size, 0, .none⟩, 2, [0, 1]), (some ⟨w.heap.size + 1, 0, .none⟩, 2, [3, 0])] 2 _ _ _ (Mx.two w 0 1 3 0) rfl (fun p hp => by
    rcases List.mem_cons.1 hp with rfl | hp
    · show 2 ≤ maxLen; unfold maxLen; omega
    · rw [List.mem_singleton] at hp; subst hp; show 2 ≤ maxLen; unfold maxLen; omega)).mono ?_; rintro e w1 hx
  have em : mOf [(some (⟨w.heap.size, 0, .none⟩ : Addr), 2, [0, 1]), (some (⟨w.heap.size + 1, 0, .none⟩ : Addr), 2, [3, 0])] = [[0, 1], [3, 0]] := rfl
  unfold RestSaid at hx
  rw [em, Q1.out, Q2.out, Q3.out] at hx
  rcases hx with ⟨er, h0, h1, _⟩ | ⟨_, h1, _⟩ | ⟨_, _, ad, rfl, hf⟩
  · exact absurd h1.symm h0
  · cases h1
  have HF := Lib.hid (F1.call hf)
  clear F1 hf em
  go_wp2_with fail
  have F3 := HF.out.lit [3, 1] #[.int .i64 3, .int .i64 1] rfl 2 rfl (by omega) 3
  refine (slEqual [3, 1] [3, 1] 2 2 _ _ _ _ _ (F3.get 1 rfl) (F3.get 0 rfl) rfl rfl (by omega) (by omega)).mono ?_; rintro e w2 ⟨rfl, hf⟩
  have HF4 := Lib.hid (F3.keep hf.bel)
  rw [decide_eq_true (rfl : ([3, 1] : List Int) = [3, 1])]
  clear F3 hf
  go_wp2_with fail
  go_ret
  exact ⟨rfl, HF4.out.bel⟩
theorem someT_max (M : List (List Int)) (n : Nat) (h : ∀ j, 0 ≤ treeT M n j) : ∀ k, someT M n k = true → ∃ j, j < k ∧ 0 < treeT M n j
  | 0, hs => by cases hs
  | k + 1, hs => by
    rw [someT, Bool.or_eq_true] at hs
    rcases hs with hs | hs
    · obtain ⟨j, hj, h1⟩ := someT_max M n h k hs
      exact ⟨j, by omega, h1⟩
    · exact ⟨k, by omega, of_decide_eq_true hs⟩
def comesK (M : List (List Int)) (n i c : Nat) : Int := sK (fun k => if k = i then 0 else treeT M n k * mt M k i) c
def goesK (M : List (List Int)) (n i c : Nat) : Int := sK (fun k => if k = i then 0 else treeT M n i * mt M i k) c
theorem comes_goes (M : List (List Int)) (n i : Nat) (h6 : n < 6) (hi : i < n) : comesK M n i n = goesK M n i n := by
  unfold comesK goesK
  rw [tree_law M n i h6 hi, outT, ← sK_mul]
  refine sK_congr n fun k _ => ?_
  split <;> simp

set_option maxRecDepth 100000 in
set_option maxHeartbeats 8000000 in
theorem chainRest_any (R : List Rw) (n : Nat) (a : Option Addr) (ca : Nat) (w : World) (h : Mx w a R) (hn : R.length = n) (hl : ∀ p ∈ R, p.2.2.length ≤ maxLen) :
    Calls Try.prog 13 #[.slice a n ca] w fun e w' => e = .returned (.bool true) ∧ Below w.heap.size w w' := by
  have HS := Lib.hid h; have HN := Lib.hid hn; have HL := Lib.hid hl
  clear h hn hl
  go_enter Try.func13, Try.ntmps13
  go_wp2_with fail
  refine (chains_any _).mono ?_; rintro e w1 ⟨rfl, hb⟩
  have HF1 := Lib.hid ((Fr.start w).keep hb)
  clear hb
  go_wp2_with fail
  refine (chaRest R n _ _ _ (HS.out.keep HF1.out.bel) HN.out HL.out).mono ?_; rintro e w2 hx
  rcases hx with ⟨er, h0, h1, rfl, rfl⟩ | ⟨h1, h2, rfl, hf⟩ | ⟨h1, h2, ad, rfl, hf⟩
  · have z : (er != 0) = true := by rw [bne_iff_ne]; exact h0
    clear h1
    go_wp2_with fail
    go_ret
    exact ⟨rfl, HF1.out.bel⟩
  · have HF2 := Lib.hid (HF1.out.call hf)
    clear h1 h2 hf
    go_wp2_with fail
    go_ret
    exact ⟨rfl, HF2.out.bel⟩
  · have HF2 := Lib.hid (HF1.out.call hf)
    have hok := chkC_ok h1
    rw [show (mOf R).length = n by simp [mOf, HN.out]] at hok
    have n1 := hok.n1
    have n5 := hok.n5
    have hnn := fun j => hT_nonneg (mOf R) n j (fun i k => (hok.bd i k).1) n []
    have hle : ∀ j, treeT (mOf R) n j ≤ 10000000000 := fun j => by
      have := hT_le (mOf R) n j (fun i k => (hok.bd i k).1) (fun i k => (hok.bd i k).2) n5 n []
      unfold treeT
      have h5 : n = 1 ∨ n = 2 ∨ n = 3 ∨ n = 4 ∨ n = 5 := by omega
      rcases h5 with rfl | rfl | rfl | rfl | rfl <;> omega
    have hst := someT_max (mOf R) n hnn n h2
    have HK := Lib.hid hok; have HNN := Lib.hid hnn; have HLE := Lib.hid hle; have HST := Lib.hid hst
    have z1 : ((n : Int) != (n : Int)) = false := by simp
    clear hf h1 h2 hok hnn hle hst
    go_wp2_with fail
    clear z1
    go_loopw [34] (fun i wr => ∃ k : Nat, k ≤ n ∧ i = .int .i64 k ∧ Hid (Fr w wr ([⟨3, .slice ad n n, ints (restL (mOf R) n)⟩] ++ []))) (fun i _ => n - (intOf i).toNat)
    case atStart => exact ⟨0, by omega, rfl, HF2⟩
    case round =>
      clear HF2
      obtain ⟨i, hi, rfl, HF⟩ := hrel
      by_cases hlt : i < n
      · have hcg := comes_goes (mOf R) n i (by omega) hlt
        have HCG := Lib.hid hcg
        clear hcg
        go_wp2_with fail
        go_loopw [6, 7, 39] (fun s6 s7 s39 wr => ∃ (c : Nat) (A B : Int), c ≤ n ∧ s39 = .int .i64 c ∧ s6 = .int .i64 A ∧ s7 = .int .i64 B ∧ 0 ≤ A ∧ A ≤ 200000000000 * (c : Int) ∧ 0 ≤ B ∧ B ≤ 200000000000 * (c : Int) ∧ Hid (comesK (mOf R) n i c = A) ∧ Hid (goesK (mOf R) n i c = B) ∧ Hid (Fr w wr ([⟨3, .slice ad n n, ints (restL (mOf R) n)⟩] ++ []))) (fun _ _ s _ => n - (intOf s).toNat)
        case atStart => exact ⟨0, 0, 0, by omega, rfl, rfl, rfl, by omega, by omega, by omega, by omega, Lib.hid rfl, Lib.hid rfl, HF⟩
        case round =>
          clear HF
          obtain ⟨c, A, B, hc, rfl, rfl, rfl, A0, A1, B0, B1, HA, HB, HF⟩ := hrel
          by_cases hlt2 : c < n
          · have sA' : comesK (mOf R) n i (c + 1) = A + if c = i then 0 else treeT (mOf R) n c * mt (mOf R) c i := by rw [← HA.out]; rfl
            have sB' : goesK (mOf R) n i (c + 1) = B + if c = i then 0 else treeT (mOf R) n i * mt (mOf R) i c := by rw [← HB.out]; rfl
            by_cases hci : c = i
            · have g1 : ((c : Int) != (i : Int)) = false := by rw [bne_eq_false_iff_eq]; omega
              rw [if_pos hci, Int.add_zero] at sA' sB'
              have HA2 := Lib.hid sA'; have HB2 := Lib.hid sB'
              clear sA' sB' hci
              go_wp2_with fail
              exact ⟨⟨c + 1, A, B, by omega, by simp, rfl, rfl, by omega, by omega, by omega, by omega, HA2, HB2, HF⟩, by simp only [intOf]; omega⟩
            · have g1 : ((c : Int) != (i : Int)) = true := by rw [bne_iff_ne]; omega
              rw [if_neg hci] at sA' sB'
              have hMx := HS.out.keep HF.out.bel
              obtain ⟨b0, o0, A1', C1, l1, rfl, hb0, hl1, hc1, hs1⟩ := hMx.at c (by rw [HN.out]; exact hlt2)
              obtain ⟨_, _, A2', C2, l2, e, _, hl2, hc2, hs2⟩ := hMx.at i (by rw [HN.out]; exact hlt)
              cases e
              have ll1 : l1.length = n := by rw [hl1]; exact HK.out.row c hlt2
              have ll2 : l2.length = n := by rw [hl2]; exact HK.out.row i hlt
              obtain ⟨b1, o1, rfl, hb1, cx⟩ := hs1.int i (by rw [ll1]; exact hlt)
              obtain ⟨b2, o2, rfl, hb2, cy⟩ := hs2.int c (by rw [ll2]; exact hlt2)
              obtain ⟨b3, o3, rfl, hb3, cr1⟩ := (HF.out.get 0 rfl).int c (by rw [restL, restP_len]; exact hlt2)
              obtain ⟨_, _, e, _, cr2⟩ := (HF.out.get 0 rfl).int i (by rw [restL, restP_len]; exact hlt)
              cases e
              rw [restL_nth _ _ _ hlt2] at cr1
              rw [restL_nth _ _ _ hlt] at cr2
              rw [ll1] at hc1
              rw [ll2] at hc2
              rw [show nth l1 i = mt (mOf R) c i by rw [hl1]; rfl] at cx
              rw [show nth l2 c = mt (mOf R) i c by rw [hl2]; rfl] at cy
              have bx := HK.out.bd c i
              have by_ := HK.out.bd i c
              have t1 := HNN.out c; have t2 := HLE.out c; have t3 := HNN.out i; have t4 := HLE.out i
              rw [show hT (mOf R) n c n [] = treeT (mOf R) n c from rfl] at t1
              rw [show hT (mOf R) n i n [] = treeT (mOf R) n i from rfl] at t3
              obtain ⟨X, hX⟩ : ∃ X, mt (mOf R) c i = X := ⟨_, rfl⟩
              obtain ⟨Y, hY⟩ : ∃ Y, mt (mOf R) i c = Y := ⟨_, rfl⟩
              obtain ⟨P, hP⟩ : ∃ P, treeT (mOf R) n c = P := ⟨_, rfl⟩
              obtain ⟨Q, hQ⟩ : ∃ Q, treeT (mOf R) n i = Q := ⟨_, rfl⟩
              rw [hX] at cx bx sA'
              rw [hY] at cy by_ sB'
              rw [hP] at cr1 t1 t2 sA'
              rw [hQ] at cr2 t3 t4 sB'
              have p0 : 0 ≤ P * X := Int.mul_nonneg t1 bx.1
              have p1 : P * X ≤ 10000000000 * 20 := Int.mul_le_mul t2 bx.2 bx.1 (by omega)
              have q0 : 0 ≤ Q * Y := Int.mul_nonneg t3 by_.1
              have q1 : Q * Y ≤ 10000000000 * 20 := Int.mul_le_mul t4 by_.2 by_.1 (by omega)
              obtain ⟨U, hU⟩ : ∃ U, P * X = U := ⟨_, rfl⟩
              obtain ⟨V, hV⟩ : ∃ V, Q * Y = V := ⟨_, rfl⟩
              rw [hU] at sA' p0 p1
              rw [hV] at sB' q0 q1
              have HA2 := Lib.hid sA'; have HB2 := Lib.hid sB'
              have i1 : (0 : Int) ≤ (c : Int) := by omega
              have i2 : (c : Int) < (n : Int) := by omega
              have i3 : (0 : Int) ≤ (i : Int) := by omega
              have i4 : (i : Int) < (n : Int) := by omega
              clear sA' sB' hMx hl1 hl2 ll1 ll2 hs1 hs2 hX hY hP hQ hci
              go_wp2_with fail
              go_quiet (fail)
              have HF3 := Lib.hid (HF.out.drewN nq)
              go_wp2_with fail
              go_quiet (fail)
              go_wp2_with fail
              exact ⟨⟨c + 1, A + U, B + V, by omega, by simp, rfl, rfl, by omega, by omega, by omega, by omega, HA2, HB2, Lib.hid (HF.out.drewN _)⟩, by simp only [intOf]; omega⟩
          · obtain rfl : c = n := by omega
            have hcg := HCG.out
            rw [HA.out, HB.out] at hcg
            have g1 : (A != B) = false := by rw [bne_eq_false_iff_eq]; exact hcg
            obtain ⟨b3, o3, rfl, hb3, cr2⟩ := (HF.out.get 0 rfl).int i (by rw [restL, restP_len]; exact hlt)
            rw [restL_nth _ _ _ hlt] at cr2
            have t3 := HNN.out i
            rw [show hT (mOf R) c i c [] = treeT (mOf R) c i from rfl] at t3
            obtain ⟨Q, hQ⟩ : ∃ Q, treeT (mOf R) c i = Q := ⟨_, rfl⟩
            rw [hQ] at cr2 t3
            have g2 : decide (Q < 0) = false := decide_eq_false (by omega)
            have i3 : (0 : Int) ≤ (i : Int) := by omega
            have i4 : (i : Int) < (c : Int) := by omega
            clear hcg hQ
            go_wp2_with fail
            exact ⟨⟨i + 1, by omega, by simp, HF⟩, by simp only [intOf]; omega⟩
      · obtain rfl : i = n := by omega
        obtain ⟨j, hj, hjp⟩ := HST.out
        have hmx := maxK_ge (restL (mOf R) i) i j hj
        rw [restL_nth _ _ _ hj] at hmx
        have hlen : (restL (mOf R) i).length = i := by rw [restL, restP_len]
        have HLEN := Lib.hid hlen
        obtain ⟨K, hK⟩ : ∃ K, maxK (restL (mOf R) i) i = K := ⟨_, rfl⟩
        rw [hK] at hmx
        have HKK := Lib.hid hK
        have g1 : decide (0 < K) = true := decide_eq_true (by omega)
        clear hlen hK hjp
        go_wp2_with fail
        refine (slMaxK (restL (mOf R) i) i _ _ _ (HF.out.get 0 rfl) HLEN.out n1 (by omega)).mono ?_; rintro e w' ⟨rfl, rfl⟩
        rw [HKK.out]
        go_wp2_with fail
        go_ret
        exact ⟨by simp, HF.out.bel⟩
theorem chainRest_row (a0 : Option Addr) (len0 cap0 : Nat) (w : World) (w0 : IsMat w a0 len0 cap0) :
    Calls Try.prog 13 #[.slice a0 len0 cap0] w fun e w' => e = .returned (.bool true) ∧ Below w.heap.size w w' := by
  obtain ⟨_, _, R, h1, h2, h3⟩ := w0
  exact chainRest_any R len0 a0 cap0 w h2 h1 (fun p hp => (h3 p hp).1)
end Go.Proofs.Ytghobphnjfgjeaa
