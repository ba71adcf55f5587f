/- The walks of warps, threads and the law WarpBound. -/
import Derived.Test.YtgblmbhbbjgdiaaWar3
import Derived.Test.YtgblmbhbbjgdiaaWarM3
import Derived.Test.YtgblmbhbbjgdiaaSlEq2
import Derived.Test.YtgblmbhbbjgdiaaGood
namespace Go.Proofs.Ytgblmbhbbjgdiaa
open Go.RowKit

theorem Sa.litN (w : World) (cs : Array Value) (T : TypeId) (xs : List Value) (e : cs.toList = xs) : Sa (w.alloc (.cells cs T)) (some ⟨w.heap.size, 0, none⟩) xs := by
  subst e
  intro h0
  refine ⟨w.heap.size, 0, rfl, by simp, fun i hi => ?_⟩
  rw [cell_new]; simp
def wl2 : List Rn := [⟨1, 0, true, false, 0⟩, ⟨2, 0, true, false, 0⟩]
set_option maxRecDepth 100000 in
set_option maxHeartbeats 1000000 in
theorem warps_any (w : World) : Calls Try.prog 25 #[] w fun e w' => e = .returned (.bool true) ∧ Below w.heap.size w w' := by
  have q1 : ranW wl2 [] 3 = [0, 1, 1] := by decide +kernel
  have q2 : endW (stL wl2 [] 3) = [2520, 2520] := by decide +kernel
  have q3 : chkW wl2 [] = 0 := by decide +kernel
  have Q1 := Lib.hid q1; have Q2 := Lib.hid q2; have Q3 := Lib.hid q3
  clear q1 q2 q3
  go_enter Try.func25, Try.ntmps25
  go_wp2_with fail
  have hS := Sa.litN w #[.int .i64 1, .int .i64 0, .bool true, .bool false, .int .i64 2, .int .i64 0, .bool true, .bool false] 51 (ths wl2) rfl
  refine (warPlay_yes wl2 [] 2 0 3 _ _ _ _ _ hS (Sa.nil _ _) rfl rfl (by omega) Q3.out (by omega)).mono ?_; rintro e w1 ⟨ad, cp, ad', cp', rfl, _, _, hf⟩
  rw [Q1.out, Q2.out] at hf
  have HF := Lib.hid (((Fr.start w).alloc (.cells #[.int .i64 1, .int .i64 0, .bool true, .bool false, .int .i64 2, .int .i64 0, .bool true, .bool false] 51)).call hf)
  clear hS hf
  go_wp2_with fail
  have F3 := HF.out.lit [0, 1, 1] #[.int .i64 0, .int .i64 1, .int .i64 1] rfl 3 rfl (by omega) 3
  refine (slEqual [0, 1, 1] [0, 1, 1] 3 3 _ _ _ _ _ (F3.get 2 rfl) (F3.get 0 rfl) rfl rfl (by omega) (by omega)).mono ?_; rintro e w2 ⟨rfl, hf⟩
  have HF4 := Lib.hid (F3.keep hf.bel)
  rw [decide_eq_true (rfl : ([0, 1, 1] : List Int) = [0, 1, 1])]
  clear F3 hf
  go_wp2_with fail
  have F5 := HF4.out.lit [2520, 2520] #[.int .i64 2520, .int .i64 2520] rfl 2 rfl (by omega) 3
  refine (slEqual [2520, 2520] [2520, 2520] 2 2 _ _ _ _ _ (F5.get 2 rfl) (F5.get 0 rfl) rfl rfl (by omega) (by omega)).mono ?_; rintro e w3 ⟨rfl, hf⟩
  have HF6 := Lib.hid (F5.keep hf.bel)
  rw [decide_eq_true (rfl : ([2520, 2520] : List Int) = [2520, 2520])]
  clear F5 hf
  go_wp2_with fail
  go_ret
  exact ⟨rfl, HF6.out.bel⟩

theorem thrInfo : (Try.prog.info? 51).map (fun i => (i.zero, i.size, i.bytes)) = some (some (.agg #[.int .i64 0, .int .i64 0, .bool false, .bool false]), 4, 24) := by kernel_rfl
def thrL (z : List Int) : List Rn := z.map fun v => ⟨1 + v % 10, 0, true, false, 0⟩
theorem thrL_at (z : List Int) (i : Nat) (h : i < z.length) : rnA (thrL z) i = ⟨1 + nth z i % 10, 0, true, false, 0⟩ := by simp [rnA, thrL, h, nth]
def ThrSaid (z : List Int) (n : Nat) (w : World) (e : Ending) (w' : World) : Prop :=
  ∃ ad k cp, e = .returned (.slice ad k cp) ∧ k ≤ n ∧ (k = n ∨ k = 8) ∧ k ≤ 8 ∧ k ≤ cp ∧ FB w w' 51 ad (ths (thrL (z.take k))) []
set_option maxRecDepth 100000 in
set_option maxHeartbeats 4000000 in
theorem threads_any (z : List Int) (n : Nat) (a : Option Addr) (cap : Nat) (w : World) (h : Sa w a (ints z)) (hn : z.length = n) (hc : n ≤ cap) :
    Calls Try.prog 26 #[.slice a n cap] w (ThrSaid z n w) := by
  obtain ⟨m, n1, n2, n3⟩ : ∃ m : Nat, m ≤ n ∧ (m : Int) ≤ (8 : Int) ∧ (m = n ∨ (m : Int) = (8 : Int)) := ⟨min n 8, by omega, by omega, by omega⟩
  have HMIN := Lib.hid (run_min2 #[3, 3] 3 n 8 m n1 n2 n3)
  have HN := Lib.hid hn; have HS := Lib.hid h
  have b1 : (m : Int) ≤ (cap : Int) := by omega
  have m8 : m ≤ 8 := by omega
  have HN3 : Hid (m = n ∨ m = 8) := Lib.hid (by omega)
  clear h hn n3
  go_enter Try.func26, Try.ntmps26
  have hmin := HMIN.out
  go_wp2_with fail
  clear hmin
  go_loopw [3, 12] (fun s3 i wr => ∃ (k : Nat) (v : Value), k ≤ m ∧ i = .int .i64 k ∧ v = s3 ∧ Hid (wr.ownsRow w.heap.size 51 4 v k (ths (thrL (z.take k)))) ∧ Hid (Below w.heap.size w wr)) (fun _ i _ => m - (intOf i).toNat)
  case atStart => exact ⟨0, _, by omega, rfl, rfl, Lib.hid (World.ownsRow_nil _ _ _ _), Lib.hid (Below.refl _ _)⟩
  case round =>
    obtain ⟨k, v, hk, rfl, rfl, HO, HB⟩ := hrel
    by_cases hlt : k < m
    · obtain ⟨b', off, rfl, hb, hcx⟩ := (HS.out.keep HB.out).int k (by rw [HN.out]; omega)
      have htk := take_nth z k (by rw [HN.out]; omega)
      obtain ⟨x, hx⟩ : ∃ x, nth z k = x := ⟨_, rfl⟩
      rw [hx] at hcx htk
      have r1 := Int.emod_nonneg x (b := 10) (by omega)
      have r2 := Int.emod_lt_of_pos x (b := 10) (by omega)
      have hst : ths (thrL (z.take k)) ++ [.int .i64 (1 + x % 10), .int .i64 0, .bool true, .bool false] = ths (thrL (z.take (k + 1))) := by
        rw [htk]; simp [thrL, ths, thC]
      have HST := Lib.hid hst
      obtain ⟨r, hr⟩ : ∃ r, x % 10 = r := ⟨_, rfl⟩
      rw [hr] at r1 r2 HST
      have HR := Lib.hid hr
      have e1 : (0 : Int) ≤ (k : Int) := by omega
      have e2 : (k : Int) < (m : Int) := by omega
      clear hx htk hst hr
      go_wp2_with (first
        | (go_at_call 14; refine (within_any _ _ _ (by omega) (by omega)).mono ?_; rintro e w' ⟨rfl, rfl⟩; rw [HR.out])
        | (with_reducible refine at_slot 22 ?_; go_must (refine wpList_pushStr rfl _ _ 48 51 _ 4 24 Try.underlying48 thrInfo rfl (by decide) (by decide) rfl v k _ [.int .i64 (1 + r), .int .i64 0, .bool true, .bool false] rfl HO.out HB.out _ (by simp) rfl rfl ?_ ?_ ?_); rotate_left; rotate_left; intro v' w3 ho2 hb2 hlt2))
      · rw [HST.out] at ho2
        exact ⟨⟨k + 1, v', by omega, by simp, rfl, Lib.hid ho2, Lib.hid hb2⟩, by simp only [intOf]; omega⟩
      · intro y hy
        simp only [List.mem_cons, List.not_mem_nil, or_false] at hy
        rcases hy with rfl | rfl | rfl | rfl <;> rfl
      · omega
    · obtain rfl : k = m := by omega
      obtain ⟨ad, cp, rfl, hcp, hfb⟩ := FB.of HO.out HB.out
      have HF := Lib.hid hfb
      clear HO HB hfb
      go_wp2_with fail
      go_ret
      exact ⟨ad, k, cp, rfl, n1, HN3.out, m8, hcp, HF.out⟩
end Go.Proofs.Ytgblmbhbbjgdiaa
