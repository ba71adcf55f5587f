/- Contract of event.Some (least 1) at sets that pass the check. -/
import Derived.Test.YtliajiilcicppaaEvt4
namespace Go.Proofs.Ytliajiilcicppaa
open Go.RowKit

def someCnt (ss : List Nat) (i : Nat) : Nat → Nat
  | 0 => 0
  | j + 1 => someCnt ss i j + ss.getD j 0 / 2 ^ i % 2
theorem someCnt_le (ss : List Nat) (i : Nat) : ∀ j, someCnt ss i j ≤ j
  | 0 => by rw [someCnt]; omega
  | j + 1 => by rw [someCnt]; have := someCnt_le ss i j; omega
/-- the cases that lie in one of the sets, of the first ones -/
def someIn (ss : List Nat) : Nat → Nat
  | 0 => 0
  | i + 1 => if 1 ≤ someCnt ss i ss.length then someIn ss i ||| 2 ^ i else someIn ss i
theorem someIn_lt (ss : List Nat) : ∀ i, someIn ss i < 2 ^ i
  | 0 => by rw [someIn]; omega
  | i + 1 => by
    have h1 := someIn_lt ss i
    have h2 := Nat.two_pow_pos i
    rw [someIn]
    split
    · exact Nat.or_lt_two_pow (by omega) (by omega)
    · omega
theorem u16orE (a b : Nat) (ha : a < 65536) (hb : b < 65536) : bits .or .u16 (a : Int) (b : Int) = ((a ||| b : Nat) : Int) := Go.u16_or_nat a b ha hb
theorem shl16E : ∀ j : Nat, j < 16 → IntKind.u16.wrap (2 ^ j) = ((2 ^ j : Nat) : Int) := by decide

set_option maxRecDepth 100000 in
set_option maxHeartbeats 4000000 in
theorem evSome (l : List Int) (ss : List Nat) (n m : Nat) (a b : Option Addr) (ca cb : Nat) (w : World) (h : Sa w a (ints l)) (h' : Sa w b (hws ss)) (hn : l.length = n) (hm : ss.length = m) (hs : ∀ s ∈ ss, s < 65536) (hm2 : m ≤ 12) (he : chkE l ss = 0)
    (X Y : Int) (he1 : chkE l [someIn ss n] = 0) (hr : RedIs (wtL l (someIn ss n)) (isum l) X Y) :
    Calls Try.prog 27 #[.slice a n ca, .slice b m cb, .int .i64 1] w fun e w' => e = .returned (.tuple #[.agg #[.int .i64 X, .int .i64 Y], .int .i64 0]) ∧ Below w.heap.size w w' := by
  obtain ⟨n1, n12, -, -⟩ := chkE_ok he
  rw [hn] at n1 n12
  have HN := Lib.hid hn; have HM := Lib.hid hm; have HS := Lib.hid (h.alloc (.cells #[.int .i64 0, .int .i64 0] 23)); have HS' := Lib.hid (h'.alloc (.cells #[.int .i64 0, .int .i64 0] 23)); have H16 := Lib.hid hs
  have HE := Lib.hid he; have HE1 := Lib.hid he1; have HR := Lib.hid hr
  clear hn hm h h' hs he he1 hr
  go_enter Try.func27, Try.ntmps27
  go_wp2_with fail
  refine (evChk l ss n m _ _ _ _ _ HS.out HS'.out HN.out HM.out H16.out (by omega)).mono ?_; rintro e w' ⟨rfl, rfl⟩
  rw [HE.out]
  go_wp2_with fail
  go_loop [9, 27] (fun s9 s27 => ∃ (i q : Nat), i ≤ n ∧ s27 = .int .i64 i ∧ s9 = .int .u16 q ∧ Hid (someIn ss i = q)) (fun _ s => n - (intOf s).toNat)
  case atStart => exact ⟨0, 0, by omega, rfl, rfl, Lib.hid rfl⟩
  case round =>
    obtain ⟨i, q, hi, rfl, rfl, HQ⟩ := hrel
    by_cases hlt : i < n
    · have e1 : (0 : Int) ≤ (i : Int) := by omega
      have e2 : (i : Int) < (n : Int) := by omega
      have hq := someIn_lt ss i
      have hp : 2 ^ i ≤ 4096 := Nat.pow_le_pow_right (n := 2) (by omega) (show i ≤ 12 by omega)
      have hst : someIn ss (i + 1) = if 1 ≤ someCnt ss i m then someIn ss i ||| 2 ^ i else someIn ss i := by rw [someIn, HM.out]
      rw [HQ.out] at hq hst
      have hor := u16orE q (2 ^ i) (by omega) (by omega)
      have hsh := shl16E i (by omega)
      rw [← hsh] at hor
      have HST := Lib.hid hst; have HOR := Lib.hid hor
      clear hst hor hsh hq hp
      go_wp2_with fail
      go_loop [11, 32] (fun s11 s32 => ∃ (j c : Nat), j ≤ m ∧ s32 = .int .i64 j ∧ s11 = .int .i64 c ∧ c ≤ 12 ∧ Hid (someCnt ss i j = c)) (fun _ s => m - (intOf s).toNat)
      case atStart => exact ⟨0, 0, by omega, rfl, rfl, by omega, Lib.hid rfl⟩
      case round =>
        obtain ⟨j, c, hj, rfl, rfl, hc, HC⟩ := hrel
        by_cases hlt2 : j < m
        · have hcl := hws_get ss j (by rw [HM.out]; exact hlt2)
          obtain ⟨bb, ob, rfl, _, cx⟩ := HS'.out.at j (by rw [hws_len, HM.out]; exact hlt2)
          rw [hcl] at cx
          have hs := H16.out (ss.getD j 0) (by
            rw [List.getD_eq_getElem?_getD, List.getElem?_eq_getElem (by rw [HM.out]; exact hlt2)]; exact List.getElem_mem _)
          have hst := show someCnt ss i (j + 1) = someCnt ss i j + ss.getD j 0 / 2 ^ i % 2 from rfl
          have hle := someCnt_le ss i (j + 1)
          obtain ⟨s, hsv⟩ : ∃ s, ss.getD j 0 = s := ⟨_, rfl⟩
          rw [hsv] at cx hs hst
          rw [hst, HC.out] at hle
          rw [HC.out] at hst
          have S := shr_and1 s i hs
          have F : (s : Int) / 2 ^ i = ((s / 2 ^ i : Nat) : Int) := by simp
          rw [← F] at S
          obtain ⟨t, ht⟩ : ∃ t, s / 2 ^ i % 2 = t := ⟨_, rfl⟩
          have ht2 : t ≤ 1 := by omega
          rw [ht] at S hst hle
          have HST2 := Lib.hid hst
          have j1 : (0 : Int) ≤ (j : Int) := by omega
          have j2 : (j : Int) < (m : Int) := by omega
          clear hcl hsv hst F ht
          go_wp2_with fail
          exact ⟨⟨j + 1, c + t, by omega, by simp, by simp, by omega, HST2⟩, by simp only [intOf]; omega⟩
        · obtain rfl : j = m := by omega
          have hst := HST.out
          rw [HC.out] at hst
          have hor := HOR.out
          by_cases h1 : 1 ≤ c
          · rw [if_pos h1] at hst
            have HST3 := Lib.hid hst
            have g : decide ((1 : Int) ≤ (c : Int)) = true := decide_eq_true (by omega)
            clear hst
            go_wp2_with fail
            exact ⟨⟨i + 1, q ||| 2 ^ i, by omega, by simp, rfl, HST3⟩, by simp only [intOf]; omega⟩
          · rw [if_neg h1] at hst
            have HST3 := Lib.hid hst
            have g : decide ((1 : Int) ≤ (c : Int)) = false := decide_eq_false (by omega)
            clear hst hor
            go_wp2_with fail
            exact ⟨⟨i + 1, q, by omega, by simp, rfl, HST3⟩, by simp only [intOf]; omega⟩
    · obtain rfl : i = n := by omega
      have hq := someIn_lt ss i
      have hp : 2 ^ i ≤ 4096 := Nat.pow_le_pow_right (n := 2) (by omega) (show i ≤ 12 by omega)
      have he1 := HE1.out
      have hr := HR.out
      rw [HQ.out] at hq he1 hr
      have HE2 := Lib.hid he1; have HR2 := Lib.hid hr
      clear he1 hr
      go_wp2_with fail
      refine (evChance l i _ _ q _ HS.out HN.out (by omega) X Y HE2.out HR2.out).mono ?_; rintro e w2 ⟨rfl, hb⟩
      obtain ⟨c0, c1, f0, f1, hz, hk⟩ := res2 hb
      have HK := Lib.hid hk
      clear hb hk
      go_wp2_with fail
      exact bodyPost_ret (v := .tuple #[.agg #[.int .i64 X, .int .i64 Y], .int .i64 0]) (by simp [results, Try.results27, go_sem, c0, c1]) rfl
        ⟨rfl, (HK.out.setCell (Nat.le_refl _) _).setCell (Nat.le_refl _) _⟩
end Go.Proofs.Ytliajiilcicppaa
