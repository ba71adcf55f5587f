/- The walk of the law TapeEven. -/
import Derived.Test.YtnjabochagahjaaTape2
import Derived.Test.YtnjabochagahjaaSlMM
import Derived.Lib.RabinKarpLaws
namespace Go.Proofs.Ytnjabochagahjaa
open Go.RowKit

def bitsX (x k : Nat) : Nat → List Int
  | 0 => []
  | j + 1 => bitsX x k j ++ [((x / 2 ^ (k - 1 - j) % 2 : Nat) : Int)]
theorem bitsX_len (x k : Nat) : ∀ j, (bitsX x k j).length = j
  | 0 => rfl
  | j + 1 => by rw [bitsX, List.length_append, bitsX_len x k j]; rfl
theorem bitsX_01 (x k : Nat) : ∀ j, Bit01 (bitsX x k j)
  | 0 => fun y hy => by simp [bitsX] at hy
  | j + 1 => by
    rw [bitsX]
    refine (bitsX_01 x k j).app (fun y hy => ?_)
    rw [List.mem_singleton] at hy; subst hy; omega
theorem bitsX_val (x k : Nat) : ∀ j, j ≤ k → x < 2 ^ k → valL (bitsX x k j) = ((x / 2 ^ (k - j) : Nat) : Int)
  | 0, _, h => by rw [Nat.sub_zero, Nat.div_eq_of_lt h]; rfl
  | j + 1, hj, h => by
    rw [bitsX, valL_snoc, bitsX_val x k j (by omega) h]
    have e : x / 2 ^ (k - j) = x / 2 ^ (k - 1 - j) / 2 := by
      rw [Nat.div_div_eq_div_mul, ← Nat.pow_succ, show (k - 1 - j).succ = k - j from by omega]
    rw [e, show k - (j + 1) = k - 1 - j from by omega]
    omega
def oftL (n x : Nat) : List Int := (List.range n).map fun j => if j < x then 1 else 0
theorem oftL_len (n x : Nat) : (oftL n x).length = n := by simp [oftL]
theorem oftL_nth (n x j : Nat) (h : j < n) : nth (oftL n x) j = if j < x then 1 else 0 := by simp [oftL, nth, h]
theorem oftL_zero (n : Nat) : oftL n 0 = List.replicate n 0 := ext_nth (by simp [oftL]) (fun i hi => by rw [oftL_len] at hi; rw [oftL_nth _ _ _ hi, nth_rep _ _ _ hi]; simp)
theorem oftL_step (n x : Nat) (h : x < n) : (oftL n x).set x 1 = oftL n (x + 1) := by
  refine ext_nth (by simp [oftL_len]) (fun i hi => ?_)
  rw [List.length_set, oftL_len] at hi
  rw [nth_set _ _ _ _ (by rw [oftL_len]; exact h), oftL_nth _ _ _ hi, oftL_nth _ _ _ hi]
  by_cases e : i = x
  · subst e; simp
  · rw [if_neg e]; by_cases h2 : i < x
    · rw [if_pos h2, if_pos (by omega)]
    · rw [if_neg h2, if_neg (by omega)]
theorem oftL_full (n x : Nat) (h : n ≤ x) : oftL n (x + 1) = oftL n x := ext_nth (by simp [oftL_len]) (fun i hi => by
  rw [oftL_len] at hi
  rw [oftL_nth _ _ _ hi, oftL_nth _ _ _ hi, if_pos (by omega), if_pos (by omega)])
theorem oft_max (n x : Nat) (h : n ≤ x) (h0 : 0 < n) : maxK (oftL n x) n = 1 := by
  rcases maxK_at (oftL n x) n with e | ⟨j, h1, e⟩
  · rw [e, oftL_nth _ _ _ h0, if_pos (by omega)]
  · rw [e, oftL_nth _ _ _ h1, if_pos (by omega)]
theorem oft_min (n x : Nat) (h : n ≤ x) (h0 : 0 < n) : minK (oftL n x) n = 1 := by
  rcases minK_at (oftL n x) n with e | ⟨j, h1, e⟩
  · rw [e, oftL_nth _ _ _ h0, if_pos (by omega)]
  · rw [e, oftL_nth _ _ _ h1, if_pos (by omega)]
theorem shlW : ∀ k : Nat, k ≤ 10 → wrap64 ((2 : Int) ^ k) = ((2 ^ k : Nat) : Int) := fun k h => by
  have := pow_10 k h
  obtain ⟨P, hP⟩ : ∃ P, 2 ^ k = P := ⟨_, rfl⟩
  rw [hP] at this ⊢
  exact wrap64_eq (by rw [← hP]; simp) (by omega) (by omega)

set_option maxRecDepth 100000 in
set_option maxHeartbeats 8000000 in
theorem tapeEven_any (n0 : Int) (w : World) :
    Calls Try.prog 3 #[.int .i64 n0] w fun e w' => e = .returned (.bool true) ∧ Below w.heap.size w w' := by
  obtain ⟨n, hn, n1, n2⟩ : ∃ n : Nat, n0 % 64 + 1 = n ∧ 1 ≤ n ∧ n ≤ 64 := ⟨(n0 % 64 + 1).toNat, by omega, by omega, by omega⟩
  have HN0 := Lib.hid hn
  obtain ⟨k1, k2, k3⟩ := bitsN_spec n (by omega)
  clear hn
  go_enter Try.func3, Try.ntmps3
  go_wp2_with fail
  refine (tapes_any _).mono ?_; rintro e w1 ⟨rfl, hb⟩
  have F1 := (Fr.start w).keep hb
  clear hb
  go_wp2_with fail
  refine (within_any _ _ _ (by omega) (by omega)).mono ?_; rintro e w' ⟨rfl, rfl⟩
  rw [show n0 % 64 = (n : Int) - 1 from by have := HN0.out; omega]
  go_wp2_with fail
  rw [show 1 + ((n : Int) - 1) = (n : Int) from by omega]
  refine (tpBits n _ (by omega) (by omega)).mono ?_; rintro e w' ⟨rfl, rfl⟩
  rw [Int.toNat_natCast]
  obtain ⟨k, hk⟩ : ∃ k, bitsN n = k := ⟨_, rfl⟩
  rw [hk] at k1 k2 k3 ⊢
  have HK := Lib.hid hk
  have k4 : k ≤ 6 := by
    rcases Nat.lt_or_ge 6 k with h | h
    · have := k3 6 h; omega
    · exact h
  obtain ⟨P, hP⟩ : ∃ P, 2 ^ k = P := ⟨_, rfl⟩
  have HP := Lib.hid hP
  have P64 : P ≤ 64 := by rw [← hP]; exact Nat.pow_le_pow_right (n := 2) (by omega) k4
  have sw : wrap64 ((2 : Int) ^ k) = (P : Int) := by
    have := shlW k k2
    rw [hP] at this
    exact this
  have SW := Lib.hid sw
  rw [hP] at k1
  obtain ⟨Q, hQ, hQ2⟩ : ∃ Q : Nat, wrap64 ((2 : Int) ^ (k - 1)) = (Q : Int) ∧ (0 < k → Q < n) := ⟨2 ^ (k - 1), shlW (k - 1) (by omega), fun h => k3 (k - 1) (by omega)⟩
  have g1 : decide ((k : Int) < 0) = false := decide_eq_false (by omega)
  have g2 : decide (P < n) = false := decide_eq_false (by omega)
  have g4 : 0 < k → decide (n ≤ Q) = false := fun h => decide_eq_false (by have := hQ2 h; omega)
  have hmk := make_ints n (by omega)
  have F2 := F1.makeInts n (by omega)
  rw [← oftL_zero] at F2
  have XK : Hid (∀ x, x < P → valL (bitsX x k k) = (x : Int)) := Lib.hid fun x hx => by rw [bitsX_val x k k (Nat.le_refl _) (by rw [hP]; exact hx), Nat.sub_self, Nat.pow_zero, Nat.div_one]
  have YK : Hid (∀ x : Nat, x < P → ¬ ((x : Int) < (n : Int)) → 0 < k) := Lib.hid fun x hx h => by
    rcases Nat.eq_zero_or_pos k with h0 | h0
    · rw [h0] at hP; simp at hP; omega
    · exact h0
  clear hk hP k3 hQ2
  cases g3 : decide (0 < k)
  case' true => (replace g4 := g4 (of_decide_eq_true g3); have kp : 1 ≤ k := of_decide_eq_true g3)
  case' false => clear g4 hQ
  all_goals
    go_wp2_with fail
    rw [SW.out]
    clear hmk sw
    first | (rw [hQ]; clear hQ) | skip
    go_loopw [6, 50] (fun sh i wr => ∃ x : Nat, x ≤ P ∧ i = .int .i64 x ∧ sh = .int .i64 ((x - n : Nat) : Int) ∧ Fr w wr [⟨3, .slice (some ⟨w1.heap.size, 0, none⟩) n n, ints (oftL n x)⟩]) (fun _ i _ => P - (intOf i).toNat)
    case atStart => exact ⟨0, by omega, rfl, by rw [Nat.zero_sub]; rfl, F2⟩
    case round =>
      obtain ⟨x, hx, rfl, rfl, hfr⟩ := hrel
      clear F2
      by_cases hlt : x < P
      · have FA := Lib.hid hfr
        clear hfr
        go_wp2_with fail
        go_loopw [8, 9] (fun o i wr' => ∃ (j : Nat) (ad : Option Addr) (cp : Nat), j ≤ k ∧ i = .int .i64 ((k : Int) - 1 - j) ∧ o = .slice ad j cp ∧ Fr w wr' [⟨5, .slice ad j cp, byts (bitsX x k j)⟩, ⟨3, .slice (some ⟨w1.heap.size, 0, none⟩) n n, ints (oftL n x)⟩]) (fun _ i _ => (intOf i + 1).toNat)
        case atStart => exact ⟨0, _, 0, by omega, by simp, rfl, FA.out.new 5 #[] [] rfl 0 rfl (by omega)⟩
        case round =>
          obtain ⟨j, ad, cp, hj, rfl, rfl, hfr⟩ := hrel
          clear FA
          by_cases hjk : j < k
          · obtain ⟨i, hi, hik⟩ : ∃ i : Nat, k - 1 - j = i ∧ (k : Int) - 1 - j = (i : Int) := ⟨k - 1 - j, rfl, by omega⟩
            rw [hik]
            have hx' : x / 2 ^ i < 9223372036854775808 := by have := Nat.div_le_self x (2 ^ i); omega
            have hand := and_one (x / 2 ^ i) hx'
            have E : bits .and .i64 ((x : Int) / 2 ^ i) 1 % 256 = ((x / 2 ^ i % 2 : Nat) : Int) := by
              have h1 : (x : Int) / 2 ^ i = ((x / 2 ^ i : Nat) : Int) := by simp
              rw [h1, hand]; omega
            have hbs : bitsX x k (j + 1) = bitsX x k j ++ [((x / 2 ^ i % 2 : Nat) : Int)] := by rw [bitsX, hi]
            obtain ⟨b, hb⟩ : ∃ b, x / 2 ^ i % 2 = b := ⟨_, rfl⟩
            have hb2 : b ≤ 1 := by omega
            have i6 : i ≤ 6 := by omega
            have ij : i + 1 + j = k := by omega
            rw [hb] at E hbs
            have HBS := Lib.hid hbs
            have HF := Lib.hid hfr
            have HI := Lib.hid hi
            clear hi hik hx' hand hbs hb hfr
            go_wp2_with (with_reducible refine at_slot 67 ?_; go_must (refine wpList_push' rfl _ _ 28 5 (.int .u8 0) 1 Try.underlying28 u8Info rfl (by omega) rfl ad j cp _ (.int .u8 (b : Int)) _ _ rfl rfl HF.out rfl rfl ?_ ?_); rotate_left; intro ad' cp' w2 hf2 hlt2)
            · rw [byts_snoc, ← HBS.out] at hf2
              go_roundw
              case rel => exact ⟨j + 1, ad', cp', by omega, val_int (by omega), rfl, hf2⟩
              case measure => simp only [intOf]; omega
            · omega
          · obtain rfl : j = k := by omega
            have XV := XK.out x hlt
            have HL : Hid ((bitsX x j j).length = j) := Lib.hid (bitsX_len x j j)
            have HB01 := Lib.hid (bitsX_01 x j j)
            have HXV := Lib.hid XV
            clear XV
            have HF := Lib.hid hfr
            clear hfr
            have hcp := HF.out.cap
            go_wp2_with fail
            refine (tpDraw (bitsX x j j) j _ _ n _ (HF.out.get 0 rfl) HL.out HB01.out (by omega) hcp).mono ?_; rintro e w' ⟨rfl, he⟩
            rw [Int.toNat_natCast, HK.out] at he
            have tk : (bitsX x j j).take j = bitsX x j j := List.take_of_length_le (by rw [HL.out]; omega)
            by_cases hxn : (x : Int) < (n : Int)
            · have hy := drawR_yes j n (bitsX x j j) 0 (by rw [HL.out]; omega) (by rw [tk, HXV.out]; exact hxn)
              rw [tk, HXV.out, Nat.zero_add] at hy
              rw [hy] at he
              clear hy tk
              rcases he with ⟨he, _⟩ | ⟨_, _, ⟨v, u, he, rfl⟩ | ⟨he, _⟩⟩
              · exact absurd ⟨by omega, by omega⟩ he
              · simp only [Option.some.injEq, Prod.mk.injEq] at he
                obtain ⟨rfl, rfl⟩ := he
                unfold ret3
                have F5 := HF.out.tail
                obtain ⟨g', e, _, hc1, hz1⟩ := F5.openI x (by rw [oftL_len]; omega)
                cases e
                rw [oftL_nth _ _ _ (by omega), if_neg (by omega)] at hc1
                have F6 := F5.setInt x 1
                rw [oftL_step n x (by omega)] at F6
                have HF6 := Lib.hid F6
                have s0 : x - n = 0 := by omega
                rw [s0]
                have s1 : x + 1 - n = 0 := by omega
                have HS1 := Lib.hid s1
                have e1 : ((j : Int) != (j : Int)) = false := by simp
                have d1 : (0 : Int) ≤ (x : Int) := by omega
                have d2 : decide ((x : Int) < 0) = false := decide_eq_false (by omega)
                have d3 : decide (n ≤ x) = false := decide_eq_false (by omega)
                clear F5 F6 s0 s1 HF
                go_wp2_with fail
                go_roundw
                case rel => exact ⟨x + 1, by omega, by go_num, by rw [HS1.out]; rfl, HF6.out⟩
                case measure => simp only [intOf]; omega
              · cases he
            · have hj0 := YK.out x hlt (by omega)
              have hy := drawR_no j n (bitsX x j j) 0 hj0 (by rw [HL.out]; omega) (by rw [tk, HXV.out]; exact hxn)
              rw [drawR_short j n (List.drop j (bitsX x j j)) _ (by rw [List.length_drop, HL.out]; omega)] at hy
              rw [hy] at he
              clear hy tk
              rcases he with ⟨he, _⟩ | ⟨_, _, ⟨v, u, he, rfl⟩ | ⟨_, rfl⟩⟩
              · exact absurd ⟨by omega, by omega⟩ he
              · cases he
              · unfold ret3
                have F5 := HF.out.tail
                rw [← oftL_full n x (by omega)] at F5
                have HF5 := Lib.hid F5
                obtain ⟨y, hy⟩ : ∃ y : Nat, x - n = y := ⟨_, rfl⟩
                rw [hy]
                have HY : Hid (x + 1 - n = y + 1) := Lib.hid (by omega)
                have y64 : y ≤ 64 := by omega
                clear F5 HF hy
                go_wp2_with fail
                go_roundw
                case rel => exact ⟨x + 1, by omega, by go_num, by rw [HY.out]; simp, HF5.out⟩
                case measure => simp only [intOf]; omega
      · obtain rfl : x = P := by omega
        have m1 := oft_max n x k1 (by omega)
        have m2 := oft_min n x k1 (by omega)
        have M1 := Lib.hid m1; have M2 := Lib.hid m2
        have sw := SW.out
        have HQ : Hid (((x - n : Nat) : Int) = (x : Int) - (n : Int)) := Lib.hid (by omega)
        rw [HQ.out]
        have e1 : (((x : Int) - (n : Int)) == ((x : Int) - (n : Int))) = true := beq_self_eq_true _
        clear m1 m2
        go_wp2_with fail
        refine (slMaxK (oftL n x) n _ _ _ (hfr.get 0 rfl) (oftL_len n x) (by omega) (by omega)).mono ?_; rintro e w' ⟨rfl, rfl⟩
        rw [M1.out]
        go_wp2_with fail
        refine (slMinK (oftL n x) n _ _ _ (hfr.get 0 rfl) (oftL_len n x) (by omega) (by omega)).mono ?_; rintro e w' ⟨rfl, rfl⟩
        rw [M2.out]
        go_wp2_with fail
        go_ret
        exact ⟨rfl, hfr.bel⟩
end Go.Proofs.Ytnjabochagahjaa