/- The walk of the law NestsNarayana. -/
import Derived.Test.YtdcekplmmfenlaaWNest3
import Derived.Test.YtdcekplmmfenlaaShelf
import Derived.Test.YtdcekplmmfenlaaSub1
namespace Go.Proofs.Ytdcekplmmfenlaa
open Go.RowKit

def atP : Nat → Nat → Nat → List UInt8
  | 0, _, _ => []
  | r + 1, h, k => if k < (pathRow r).getD (h + 1) 0 then 40 :: atP r (h + 1) k else 41 :: atP r (h - 1) (k - (pathRow r).getD (h + 1) 0)
theorem atP_eq : ∀ r h k, atP r h k = atN r h k
  | 0, _, _ => rfl
  | r + 1, h, k => by
    rw [atP, atN, pathRow_get, atP_eq r, atP_eq r]
def pk (n i : Nat) : Nat := Lib.count (atN (2 * n) 0 i) [40, 41]
def pkP (n i : Nat) : Nat := Lib.count (atP (2 * n) 0 i) [40, 41]
/-- how many of the first t nests have k peaks -/
def nar (n k t : Nat) : Nat := ((List.range t).filter fun i => decide (pk n i = k)).length
theorem nar_succ (n k t : Nat) : nar n k (t + 1) = nar n k t + if pk n t = k then 1 else 0 := by
  unfold nar
  rw [List.range_succ, List.filter_append, List.length_append]
  by_cases h : pk n t = k
  · rw [if_pos h]; simp [h]
  · rw [if_neg h]; simp [h]
theorem nar_le (n k t : Nat) : nar n k t ≤ t := by
  unfold nar
  have := List.length_filter_le (fun i => decide (pk n i = k)) (List.range t)
  simpa using this
def narB (n : Nat) : Bool := (fun (L : List Nat) => (List.range n).all fun k => decide ((L.filter fun a => decide (a = k + 1)).length * n = chN n (k + 1) * chN n k)) ((List.range (catL n)).map (pkP n))
theorem nar_tab : ∀ n, n < 7 → narB n = true := by decide +kernel
theorem nar_said (n k : Nat) (hn : n < 7) (hk : k < n) : nar n (k + 1) (catN n) * n = chN n (k + 1) * chN n k := by
  have h := nar_tab n hn
  unfold narB at h
  simp only [List.all_eq_true, List.mem_range, decide_eq_true_eq] at h
  rw [← h k hk, catL_eq, List.filter_map, List.length_map]
  unfold nar
  congr 2
  apply List.filter_congr
  intro i _
  simp only [Function.comp_apply, pkP, pk, atP_eq]
  exact decide_eq_decide.2 Iff.rfl
theorem pk_le : ∀ n, n < 7 → True := fun _ _ => trivial

theorem countS (S : ByteArray) (n i : Nat) (m : Int) (w : World) (hS : S.data.toList = atN (2 * n) 0 i) (hz : S.size = 2 * n) (hn : n ≤ 15) (hm : w.cell? ⟨0, 0, none⟩ = some (.int .i64 m)) :
    Calls Try.prog 24 #[.string S, .string ⟨#[40, 41]⟩] w fun e w' => e = .returned (.int .i64 (pk n i : Nat)) ∧ w = w' := by
  refine (Try.strings_Count S ⟨#[40, 41]⟩ m w (by omega) hm (by decide)).mono ?_
  rintro e w' ⟨rfl, rfl⟩
  refine ⟨?_, rfl⟩
  have : Lib.countB S ⟨#[40, 41]⟩ = pk n i := by unfold pk; rw [← hS]
  rw [this]

set_option maxRecDepth 100000 in
set_option maxHeartbeats 2000000 in
theorem narayana_any (x y : Int) (w : World) (hsh : w.ShapedOpen Try.prog) :
    Calls Try.prog 6 #[.int .i64 x, .int .i64 y] w fun e w' => e = .returned (.bool true) ∧ Below w.heap.size w w' := by
  obtain ⟨mm, hmm⟩ := Try.laysM138.s1_3 w hsh
  have h00 : 0 < w.heap.size := World.block_lt_of_cell? w _ hmm
  have HMM := Lib.hid hmm
  clear hmm hsh
  obtain ⟨n0, hn0, hx⟩ : ∃ m : Nat, m < 6 ∧ x % 6 = m := ⟨(x % 6).toNat, by omega, by omega⟩
  obtain ⟨n, hn⟩ : ∃ n : Nat, n = n0 + 1 := ⟨_, rfl⟩
  have hn1 : (1 : Int) + (n0 : Int) = (n : Int) := by omega
  obtain ⟨k0, hk0, hy⟩ : ∃ m : Nat, m < n ∧ y % (n : Int) = m := ⟨(y % (n : Int)).toNat, by have := Int.emod_nonneg y (b := (n : Int)) (by omega); have := Int.emod_lt_of_pos y (b := (n : Int)) (by omega); omega, by have := Int.emod_nonneg y (b := (n : Int)) (by omega); omega⟩
  obtain ⟨k, hk⟩ : ∃ k : Nat, k = k0 + 1 := ⟨_, rfl⟩
  have hk1 : (1 : Int) + (k0 : Int) = (k : Int) := by omega
  have HX := Lib.hid hx; have HY := Lib.hid hy; have HN1 := Lib.hid hn1; have HK1 := Lib.hid hk1
  have T := nar_said n k0 (by omega) hk0
  rw [← hk] at T
  have n6 : n ≤ 6 := by omega
  have n1 : 0 < n := by omega
  have k1 : 0 < k := by omega
  have kn : k ≤ n := by omega
  have c1 := chN_le16 n k (by omega)
  have c2 := chN_le16 n (k - 1) (by omega)
  rw [show k0 = k - 1 from by omega] at T
  clear hx hy hn1 hk1 hn hk
  go_enter Try.func6, Try.ntmps6
  go_wp2_with fail
  refine (nestsLive_any _).mono ?_; rintro e w1 ⟨rfl, hb⟩
  have F := (Fr.start w).keep hb
  clear hb
  go_wp2_with fail
  refine (within_any _ _ _ (by omega) (by omega)).mono ?_; rintro e w' ⟨rfl, rfl⟩
  rw [HX.out]
  go_wp2_with fail
  rw [HN1.out]
  refine (within_any _ _ _ (by omega) (by omega)).mono ?_; rintro e w' ⟨rfl, rfl⟩
  rw [HY.out]
  go_wp2_with fail
  rw [HK1.out]
  refine (nestCount_i _ n _ rfl (by omega)).mono ?_; rintro e w2 ⟨rfl, hb⟩
  replace F := F.keep hb
  have cb := cat_small n (by omega)
  have HC : Hid (∀ i, i < catN n → i < catN n) := Lib.hid fun _ h => h
  generalize hM : catN n = M at *
  have HM := Lib.hid hM
  have HT := Lib.hid T
  clear hb hM T
  go_wp2_with fail
  refine (Choose_nat n k _ (by omega) (by omega)).mono ?_; rintro e w' ⟨rfl, rfl⟩
  go_wp2_with fail
  rw [show (k : Int) - 1 = ((k - 1 : Nat) : Int) from by omega]
  refine (Choose_nat n (k - 1) _ (by omega) (by omega)).mono ?_; rintro e w' ⟨rfl, rfl⟩
  generalize hA : chN n k = A at *
  generalize hB : chN n (k - 1) = B at *
  have HA := Lib.hid hA; have HB := Lib.hid hB
  clear hA hB
  go_wp2_with fail
  refine (good3 _ _).mono ?_; rintro e w' ⟨rfl, rfl⟩
  replace F := F.alloc (.cells #[.int .i64 0, .int .i64 0, .int .i64 0] 24)
  have HF0 := Lib.hid F
  clear F
  go_wp2_with fail
  go_loopw [11, 49] (fun s i wr => ∃ t : Nat, t ≤ M ∧ i = .int .i64 t ∧ s = .int .i64 (nar n k t : Nat) ∧ Fr w wr []) (fun _ i _ => M - (intOf i).toNat)
  case atStart => exact ⟨0, by omega, rfl, rfl, HF0.out⟩
  case round =>
    obtain ⟨t, ht, rfl, rfl, hfr⟩ := hrel
    clear HF0
    have b1 := nar_le n k t
    have hs := Lib.hid (nar_succ n k t)
    generalize hR : nar n k t = R at *
    have HR := Lib.hid hR
    clear hR
    by_cases hlt : t < M
    · go_wp2_with fail
      refine (nestAtS _ _ n t _ rfl rfl (by omega) (by rw [HM.out]; exact hlt)).mono ?_; rintro e w3 ⟨S, rfl, HS, HSZ, hf⟩
      replace hfr := hfr.keep hf.bel
      clear hf
      have hm2 : w3.cell? ⟨0, 0, none⟩ = some (.int .i64 mm) := by rw [← HMM.out]; exact hfr.bel.cell (p := ⟨0, 0, none⟩) h00
      have HM2 := Lib.hid hm2
      clear hm2
      go_wp2_with fail
      refine (countS S n t mm _ HS.out HSZ.out (by omega) HM2.out).mono ?_; rintro e w' ⟨rfl, rfl⟩
      by_cases hp : pk n t = k
      · have hs2 := hs.out
        rw [if_pos hp] at hs2
        have HS2 := Lib.hid hs2
        rw [hp]
        have q : ((k : Int) == (k : Int)) = true := by simp
        clear hp hs2
        go_wp2_with fail
        exact ⟨⟨t + 1, by omega, by simp, by rw [HS2.out]; simp, hfr⟩, by simp only [intOf]; omega⟩
      · have hs2 := hs.out
        rw [if_neg hp] at hs2
        have HS2 := Lib.hid hs2
        have q : (((pk n t : Nat) : Int) == (k : Int)) = false := by rw [beq_eq_false_iff_ne]; omega
        clear hp hs2
        go_wp2_with fail
        exact ⟨⟨t + 1, by omega, by simp, by rw [HS2.out]; simp, hfr⟩, by simp only [intOf]; omega⟩
    · obtain rfl : t = M := by omega
      have hq : R * n = A * B := by rw [← HR.out]; exact HT.out
      have P1 : ((R : Nat) : Int) * (n : Int) = ((R * n : Nat) : Int) := by simp
      have P2 : ((A : Nat) : Int) * (B : Int) = ((R * n : Nat) : Int) := by rw [hq]; simp
      have b3 : R * n ≤ 100000000 * 6 := Nat.mul_le_mul (by omega) n6
      generalize R * n = q at *
      have q1 : ((q : Int) == (q : Int)) = true := by simp
      clear hq
      go_wp2_with fail
      go_ret
      exact ⟨rfl, hfr.bel⟩
end Go.Proofs.Ytdcekplmmfenlaa
