/- Contracts of sums: New, ahead, Ahead, Add, Find. -/
import Derived.Test.YtgblmbhbbjgdiaaSumM
import Derived.Test.YtgblmbhbbjgdiaaGood
namespace Go.Proofs.Ytgblmbhbbjgdiaa
open Go.RowKit

/-- the box that holds the slice of a Sums -/
def boxE (B G n : Nat) : Ent := ⟨77, .slice (some ⟨B, 0, none⟩) 1 1, [.slice (some ⟨G, 0, none⟩) (n + 1) (n + 1)]⟩
def treeE (G : Nat) (v : List Int) (n : Nat) : Ent := ⟨3, .slice (some ⟨G, 0, none⟩) (n + 1) (n + 1), ints (fenL v n)⟩

set_option maxRecDepth 100000 in
set_option maxHeartbeats 1000000 in
theorem sumNew (n : Nat) (w : World) (h1 : 1 ≤ n) (h2 : n ≤ 64) :
    Calls Try.prog 15 #[.int .i64 n] w fun e w' => ∃ B G, B ≠ G ∧ e = .returned (.tuple #[.pointer (some ⟨B, 0, none⟩), .int .i64 0]) ∧ Fr w w' [treeE G (List.replicate n 0) n, boxE B G n] := by
  have hmk : ∀ w, Sem.run Try.prog (Instr.makeSlice 36 (.int .i64 ((n : Int) + 1)) (.int .i64 ((n : Int) + 1))) w = .ok (.slice (some ⟨w.heap.size, 0, none⟩) (n + 1) (n + 1)) (w.alloc (.cells (rowCells (n + 1) (fun _ => 0)) 3)) := fun w => by
    have := make_ints (n + 1) (by omega) w
    rwa [Int.natCast_add] at this
  have d1 : decide ((n : Int) < 1) = false := decide_eq_false (by omega)
  have d2 : decide ((64 : Int) < (n : Int)) = false := decide_eq_false (by omega)
  go_enter Try.func15, Try.ntmps15
  go_wp2_with fail
  go_ret2
  have F1 := (Fr.start w).makeInts (n + 1) (by omega)
  rw [fenL_zero] at F1
  have F2 := F1.new 77 #[.slice (some ⟨w.heap.size, 0, none⟩) (n + 1) (n + 1)] [.slice (some ⟨w.heap.size, 0, none⟩) (n + 1) (n + 1)] rfl 1 rfl (by omega)
  simp only [World.size_alloc] at F2
  exact ⟨_, _, by omega, rfl, F2.swap⟩

set_option maxRecDepth 100000 in
set_option maxHeartbeats 1000000 in
theorem sumAhead0 (v : List Int) (n m : Nat) (B G : Nat) (w : World) (hv : VOk v n) (hm : m ≤ n) (hc : w.cell? ⟨B, 0, none⟩ = some (.slice (some ⟨G, 0, none⟩) (n + 1) (n + 1))) (h : Sa w (some ⟨G, 0, none⟩) (ints (fenL v n))) :
    Calls Try.prog 43 #[.pointer (some ⟨B, 0, none⟩), .int .i64 m] w fun e w' => e = .returned (.int .i64 (pre v m)) ∧ w = w' := by
  have n64 := hv.n64
  have HV := Lib.hid hv; have HS := Lib.hid h
  clear hv h
  go_enter Try.func43, Try.ntmps43
  go_wp2_with fail
  go_loop [5, 6] (fun o i => ∃ k : Nat, k ≤ m ∧ i = .int .i64 k ∧ ∃ z : Int, o = .int .i64 z ∧ Hid (z = pre v m - pre v k)) (fun _ i => (intOf i).toNat)
  case atStart => exact ⟨m, by omega, rfl, 0, rfl, Lib.hid (by omega)⟩
  case round =>
    obtain ⟨k, hk, rfl, z, rfl, HZ⟩ := hrel
    have p1 := pre_bd HV.out m (by omega)
    have p2 := pre_bd HV.out k (by omega)
    have p3 := pre_bd HV.out (k - lb k) (by omega)
    have q1 := pre_le HV.out hk
    have q2 := pre_le HV.out (show k - lb k ≤ k by omega)
    by_cases hlt : 0 < k
    · have hb := lb_bits k (by omega) hlt
      obtain ⟨l1, l2⟩ := lb_bd k (by omega) hlt
      obtain ⟨b', o', e, hb', c1⟩ := HS.out.int k (by rw [fenL_len]; omega)
      cases e
      rw [fenL_nth _ _ _ (by omega), fenV, Nat.zero_add] at c1
      have hz := HZ.out
      obtain ⟨a, ha⟩ : ∃ a, pre v m = a := ⟨_, rfl⟩
      obtain ⟨b, hbb⟩ : ∃ b, pre v k = b := ⟨_, rfl⟩
      obtain ⟨c, hcc⟩ : ∃ c, pre v (k - lb k) = c := ⟨_, rfl⟩
      rw [ha, hbb] at hz
      rw [hbb, hcc] at c1
      rw [ha] at p1 q1
      rw [hbb] at p2 q1 q2
      rw [hcc] at p3 q2
      obtain ⟨L, hL⟩ : ∃ L, lb k = L := ⟨_, rfl⟩
      rw [hL] at hb l1 l2
      have HZ2 : Hid (z + (b - c) = pre v m - pre v (k - L)) := Lib.hid (by rw [ha, ← hL, hcc]; omega)
      obtain ⟨t, ht⟩ : ∃ t, b - c = t := ⟨_, rfl⟩
      rw [ht] at c1 HZ2
      have t1 : 0 ≤ t ∧ t ≤ 64000000000 := by omega
      have z1 : -64000000000 ≤ z ∧ z ≤ 64000000000 := by omega
      have m64 : m ≤ 64 := by omega
      obtain ⟨t1, t2⟩ := t1
      obtain ⟨z1, z2⟩ := z1
      have d1 : (0 : Int) ≤ (k : Int) := by omega
      have d2 : (k : Int) < (n : Int) + 1 := by omega
      have d3 : (k : Int) - (L : Int) = ((k - L : Nat) : Int) := by omega
      clear p1 p2 p3 q1 q2 hz ha hbb hcc hL ht HZ
      go_wp2_with fail
      go_round
      case rel => exact ⟨k - L, by omega, rfl, _, rfl, HZ2⟩
      case measure => simp only [intOf]; omega
    · obtain rfl : k = 0 := by omega
      have hz := HZ.out
      rw [pre, Int.sub_zero] at hz
      have HZ2 := Lib.hid hz
      clear hz p1 p2 p3 q1 q2
      go_wp2_with fail
      go_ret
      exact ⟨by rw [HZ2.out]; rfl, rfl⟩

set_option maxRecDepth 100000 in
set_option maxHeartbeats 1000000 in
theorem sumAhead (v : List Int) (n m : Nat) (B G : Nat) (w : World) (hv : VOk v n) (hm : m ≤ n) (hc : w.cell? ⟨B, 0, none⟩ = some (.slice (some ⟨G, 0, none⟩) (n + 1) (n + 1))) (h : Sa w (some ⟨G, 0, none⟩) (ints (fenL v n))) :
    Calls Try.prog 17 #[.pointer (some ⟨B, 0, none⟩), .int .i64 m] w fun e w' => e = .returned (.tuple #[.int .i64 (pre v m), .int .i64 0]) ∧ w = w' := by
  have n64 := hv.n64
  have HV := Lib.hid hv; have HS := Lib.hid h
  have d1 : decide ((m : Int) < 0) = false := decide_eq_false (by omega)
  have d2 : decide ((n : Int) + 1 ≤ (m : Int)) = false := decide_eq_false (by omega)
  clear hv h
  go_enter Try.func17, Try.ntmps17
  go_wp2_with fail
  refine (sumAhead0 v n m B G _ HV.out hm hc HS.out).mono ?_; rintro e w' ⟨rfl, rfl⟩
  go_wp2_with fail
  go_ret2
  exact ⟨rfl, rfl⟩

set_option maxRecDepth 100000 in
set_option maxHeartbeats 4000000 in
theorem sumFind (v : List Int) (n : Nat) (x : Int) (B G : Nat) (w : World) (hv : VOk v n) (hx : 0 ≤ x) (hx2 : x ≤ 9223372036854775807) (hc : w.cell? ⟨B, 0, none⟩ = some (.slice (some ⟨G, 0, none⟩) (n + 1) (n + 1))) (h : Sa w (some ⟨G, 0, none⟩) (ints (fenL v n))) :
    Calls Try.prog 18 #[.pointer (some ⟨B, 0, none⟩), .int .i64 x] w fun e w' => w = w' ∧ ∃ k : Nat, k ≤ n ∧ pre v k ≤ x ∧
      (k = n ∧ e = .returned (.tuple #[.int .i64 0, .int .i64 4]) ∨ k < n ∧ x < pre v (k + 1) ∧ e = .returned (.tuple #[.int .i64 k, .int .i64 0])) := by
  have n64 := hv.n64
  have n1 := hv.n1
  have HV := Lib.hid hv; have HS := Lib.hid h
  have d1 : decide (x < 0) = false := decide_eq_false (by omega)
  clear hv h
  go_enter Try.func18, Try.ntmps18
  go_wp2_with fail
  go_loop [1, 6, 7] (fun r a s => ∃ (at' : Nat) (t : Nat) (y : Int), at' ≤ n ∧ t ≤ 7 ∧ a = .int .i64 at' ∧ s = .int .i64 ((2 ^ t / 2 : Nat) : Int) ∧ r = .int .i64 y ∧ 0 ≤ y ∧ y ≤ 9223372036854775807 ∧ at' % 2 ^ t = 0 ∧ Hid (y = x - pre v at') ∧ Hid (n < at' + 2 ^ t ∨ x < pre v (at' + 2 ^ t))) (fun _ _ s => (intOf s).toNat)
  case atStart => exact ⟨0, 7, x, by omega, by omega, rfl, rfl, rfl, hx, hx2, by omega, Lib.hid (by simp [pre]), Lib.hid (.inl (by omega))⟩
  case round =>
    obtain ⟨a, t, y, ha, ht, rfl, rfl, rfl, hy, hy2, hmod, HY, HN⟩ := hrel
    cases t with
    | zero =>
      rw [show (2 ^ 0 / 2 : Nat) = 0 from rfl]
      have hn := HN.out
      rw [show (2 ^ 0 : Nat) = 1 from rfl] at hn
      have HY2 : Hid (pre v a ≤ x) := Lib.hid (by have := HY.out; omega)
      have HN2 := Lib.hid hn
      clear hn hmod
      by_cases han : a = n
      · subst han
        go_wp2_with fail
        go_ret2
        exact ⟨rfl, a, Nat.le_refl _, HY2.out, .inl ⟨rfl, rfl⟩⟩
      · have d5 : ((a : Int) == (n : Int)) = false := beq_eq_false_iff_ne.2 (by omega)
        have d6 : ((a : Int) == (n : Int) + 1 - 1) = false := beq_eq_false_iff_ne.2 (by omega)
        go_wp2_with fail
        go_ret2
        exact ⟨rfl, a, ha, HY2.out, .inr ⟨by omega, by have := HN2.out; omega, rfl⟩⟩
    | succ t =>
      have hs : (2 ^ (t + 1) / 2 : Nat) = 2 ^ t := by rw [Nat.pow_succ]; omega
      have hs2 : 2 ^ (t + 1) = 2 * 2 ^ t := by rw [Nat.pow_succ]; omega
      have hb : 2 ^ t ≤ 64 := Nat.pow_le_pow_right (by omega) (show t ≤ 6 by omega)
      have hpos : 0 < 2 ^ t := Nat.pow_pos (by omega)
      have hdiv : (2 ^ t / 2 : Nat) < 2 ^ t := by omega
      rw [hs]
      rw [hs2] at hmod
      have hN := HN.out
      rw [hs2] at hN
      have hm1 : a % 2 ^ t = 0 := by
        have := Nat.mod_mod_of_dvd a (Nat.dvd_mul_left (2 ^ t) 2)
        rw [hmod] at this; simpa using this.symm
      have hlb := fun h => lb_find t (by omega) a (by omega) hmod h
      obtain ⟨S, hS⟩ : ∃ S, 2 ^ t = S := ⟨_, rfl⟩
      rw [hS] at hb hpos hdiv hm1 hlb hN ⊢
      have HS2 := Lib.hid hS
      have hq : ((S / 2 : Nat) : Int) = (S : Int) / 2 := by omega
      have HN2 := Lib.hid hN
      have p1 := pre_bd HV.out a (by omega)
      have p2 := HY.out
      have HM2 : Hid (a % 2 ^ t = 0) := Lib.hid (by rw [hS]; exact hm1)
      have HM3 : Hid ((a + S) % 2 ^ t = 0) := Lib.hid (by rw [hS, Nat.add_mod_right]; exact hm1)
      have d2 : (0 : Int) ≤ (a : Int) + (S : Int) := by omega
      clear hs hs2 hmod hm1 hS hN
      by_cases hin : a + S ≤ n
      · obtain ⟨b', o', e, hb', c1⟩ := HS.out.int (a + S) (by rw [fenL_len]; omega)
        cases e
        rw [fenL_nth _ _ _ hin, fenV, hlb (by omega), Nat.add_sub_cancel, Nat.zero_add] at c1
        have p3 := pre_bd HV.out (a + S) (by omega)
        have p4 := pre_le HV.out (show a ≤ a + S by omega)
        obtain ⟨T, hT⟩ : ∃ T, pre v (a + S) - pre v a = T := ⟨_, rfl⟩
        rw [hT] at c1
        have t1 : 0 ≤ T := by omega
        have t2 : T ≤ 64000000000 := by omega
        have d3 : (a : Int) + (S : Int) < (n : Int) + 1 := by omega
        by_cases hle : T ≤ y
        · have HY2 : Hid (y - T = x - pre v (a + S)) := Lib.hid (by omega)
          have HN3 : Hid (n < a + S + 2 ^ t ∨ x < pre v (a + S + 2 ^ t)) := Lib.hid (by rw [HS2.out, Nat.add_assoc, ← Nat.two_mul]; exact HN2.out)
          have d4 : decide (T ≤ y) = true := decide_eq_true hle
          have d5 : 0 ≤ y - T := by omega
          clear p1 p2 p3 p4 hT HY hlb
          go_wp2_with fail
          go_round
          case rel => exact ⟨a + S, t, y - T, by omega, by omega, rfl, by rw [HS2.out, hq], rfl, d5, by omega, HM3.out, HY2, HN3⟩
          case measure => simp only [intOf]; omega
        · have HN3 : Hid (n < a + 2 ^ t ∨ x < pre v (a + 2 ^ t)) := Lib.hid (by rw [HS2.out]; right; omega)
          have d4 : decide (T ≤ y) = false := decide_eq_false hle
          clear p1 p2 p3 p4 hT hlb
          go_wp2_with fail
          go_round
          case rel => exact ⟨a, t, y, ha, by omega, rfl, by rw [HS2.out, hq], rfl, hy, hy2, HM2.out, HY, HN3⟩
          case measure => simp only [intOf]; omega
      · have HN3 : Hid (n < a + 2 ^ t ∨ x < pre v (a + 2 ^ t)) := Lib.hid (by rw [HS2.out]; left; omega)
        have d3 : decide ((a : Int) + (S : Int) < (n : Int) + 1) = false := decide_eq_false (by omega)
        clear p1 p2 hlb
        go_wp2_with fail
        go_round
        case rel => exact ⟨a, t, y, ha, by omega, rfl, by rw [HS2.out, hq], rfl, hy, hy2, HM2.out, HY, HN3⟩
        case measure => simp only [intOf]; omega

set_option maxRecDepth 100000 in
set_option maxHeartbeats 4000000 in
theorem sumAdd {w0 : World} {L : List Ent} (v : List Int) (n i : Nat) (x : Int) (B G : Nat) (w : World) (hv : VOk v n) (hi : i < n) (hx : -1000000000 ≤ x) (hx2 : x ≤ 1000000000) (hBG : B ≠ G) (hF : Fr w0 w (treeE G v n :: boxE B G n :: L)) :
    Calls Try.prog 16 #[.pointer (some ⟨B, 0, none⟩), .int .i64 i, .int .i64 x] w fun e w' => e = .returned (.int .i64 (addV v i x).2) ∧ Fr w0 w' (treeE G (addV v i x).1 n :: boxE B G n :: L) := by
  have n64 := hv.n64
  have n1 := hv.n1
  have HV := Lib.hid hv; have HF := Lib.hid hF
  have hbd := hv.bd i
  have hGB : G ≠ B := fun e => hBG e.symm
  obtain ⟨_, e, _, _, c0, -⟩ := hF.swap.open (by simp)
  cases e
  have c0 := c0 0 (by simp)
  have c0' : w.cell? ⟨B, 0, none⟩ = some (.slice (some ⟨G, 0, none⟩) (n + 1) (n + 1)) := c0
  clear c0 hv hF
  have d1 : decide ((i : Int) < 0) = false := decide_eq_false (by omega)
  have d2 : decide ((n : Int) ≤ (i : Int)) = false := decide_eq_false (by omega)
  have d2' : decide ((n : Int) + 1 - 1 ≤ (i : Int)) = false := decide_eq_false (by omega)
  have d3 : decide (x < -1000000000) = false := decide_eq_false (by omega)
  have d4 : decide (1000000000 < x) = false := decide_eq_false (by omega)
  have hp : pre v (i + 1) - pre v i = nth v i := by rw [pre]; omega
  have p1 := pre_bd HV.out i (by omega)
  have p2 := pre_bd HV.out (i + 1) (by omega)
  have HA : Hid (addV v i x = if nth v i + x < 0 then (v, 3) else if 1000000000 < nth v i + x then (v, 2) else (v.set i (nth v i + x), 0)) := Lib.hid rfl
  obtain ⟨q, hq⟩ : ∃ q, nth v i = q := ⟨_, rfl⟩
  obtain ⟨A, hA⟩ : ∃ A, pre v (i + 1) = A := ⟨_, rfl⟩
  obtain ⟨A', hA'⟩ : ∃ A', pre v i = A' := ⟨_, rfl⟩
  rw [hA, hA', hq] at hp
  rw [hA] at p2
  rw [hA'] at p1
  rw [hq] at hbd HA
  obtain ⟨q1, q2⟩ := hbd
  obtain ⟨p1, p3⟩ := p1
  obtain ⟨p2, p4⟩ := p2
  have HQ := Lib.hid hq; have HAA := Lib.hid hA; have HAA' := Lib.hid hA'; have HP := Lib.hid hp
  clear hq hA hA'
  go_enter Try.func16, Try.ntmps16
  have hp := HP.out
  go_wp2_with fail
  refine (sumAhead0 v n (i + 1) B G _ HV.out (by omega) c0' (HF.out.get 0 rfl)).mono ?_; rintro e w' ⟨rfl, rfl⟩
  rw [HAA.out]
  go_wp2_with fail
  refine (sumAhead0 v n i B G _ HV.out (by omega) c0' (HF.out.get 0 rfl)).mono ?_; rintro e w' ⟨rfl, rfl⟩
  rw [HAA'.out]
  have ha := HA.out
  by_cases h1 : q + x < 0
  · rw [if_pos h1] at ha
    have HA2 := Lib.hid ha
    have e1 : decide (q + x < 0) = true := decide_eq_true h1
    clear ha HA
    go_wp2_with fail
    go_ret
    exact ⟨by rw [HA2.out]; rfl, by rw [HA2.out]; exact HF.out⟩
  · rw [if_neg h1] at ha
    have e1 : decide (q + x < 0) = false := decide_eq_false h1
    by_cases h2 : 1000000000 < q + x
    · rw [if_pos h2] at ha
      have HA2 := Lib.hid ha
      have e2 : decide (1000000000 < q + x) = true := decide_eq_true h2
      clear ha HA
      go_wp2_with fail
      go_ret
      exact ⟨by rw [HA2.out]; rfl, by rw [HA2.out]; exact HF.out⟩
    · rw [if_neg h2] at ha
      have HA2 := Lib.hid ha
      have e2 : decide (1000000000 < q + x) = false := decide_eq_false h2
      have F0 : Fr w0 w (⟨3, .slice (some ⟨G, 0, none⟩) (n + 1) (n + 1), ints (fenP v (v.set i (q + x)) n (i + 1))⟩ :: boxE B G n :: L) := by
        rw [fenP_start HV.out i hi]; exact HF.out
      have HE : Hid (q + x - nth v i = x) := Lib.hid (by rw [HQ.out]; omega)
      clear ha HA h1 h2 c0'
      go_wp2_with fail
      go_loopw [8] (fun s wr => ∃ k : Nat, s = .int .i64 k ∧ k ≤ 128 ∧ i < k ∧ Hid (k ≤ n → k - lb k ≤ i) ∧ Fr w0 wr (⟨3, .slice (some ⟨G, 0, none⟩) (n + 1) (n + 1), ints (fenP v (v.set i (q + x)) n k)⟩ :: boxE B G n :: L)) (fun s _ => 129 - (intOf s).toNat)
      case atStart => exact ⟨i + 1, rfl, by omega, by omega, Lib.hid (fun h => by have := lb_bd (i + 1) (by omega) (by omega); omega), F0⟩
      case round =>
        obtain ⟨k, rfl, hk, hik, HL, hfr⟩ := hrel
        clear F0
        obtain ⟨_, e, _, _, c0, -⟩ := hfr.swap.open (by simp)
        cases e
        have c0 := c0 0 (by simp)
        have c0' : wr.cell? ⟨B, 0, none⟩ = some (.slice (some ⟨G, 0, none⟩) (n + 1) (n + 1)) := c0
        clear c0
        by_cases hlt : k ≤ n
        · have hst := fenP_step HV.out i hi (q + x) k hlt (HL.out hlt) hik
          rw [HE.out] at hst
          obtain ⟨_, e, _, c1, z1⟩ := hfr.openI k (by rw [fenP_len]; omega)
          cases e
          have hbits := lb_bits k (by omega) (by omega)
          have hbd := lb_bd k (by omega) (by omega)
          have hval := fenP_nth v (v.set i (q + x)) n k k hlt
          rw [if_neg (by omega)] at hval
          have r1 := pre_bd HV.out k (by omega)
          have r2 := pre_bd HV.out (k - lb k) (by omega)
          unfold fenV at hval
          obtain ⟨T, hT⟩ : ∃ T, nth (fenP v (v.set i (q + x)) n k) k = T := ⟨_, rfl⟩
          rw [hT] at c1 hst hval
          have t1 : -64000000000 ≤ T := by omega
          have t2 : T ≤ 64000000000 := by omega
          have F4 := hfr.setInt k (T + x)
          rw [hst] at F4
          have HUP : Hid (k + lb k ≤ n → k + lb k - lb (k + lb k) ≤ i) := Lib.hid (fun h => by
            have := lb_up k (by omega) (by omega) (by omega)
            have := HL.out hlt; omega)
          obtain ⟨M, hM⟩ : ∃ M, lb k = M := ⟨_, rfl⟩
          rw [hM] at hbits hbd F4 HUP
          have HF4 := Lib.hid F4
          obtain ⟨l1, l2⟩ := hbd
          have d5 : (0 : Int) ≤ (k : Int) := by omega
          have d6 : (k : Int) < (n : Int) + 1 := by omega
          clear r1 r2 hval hT hst hfr F4 hM
          go_wp2_with fail
          exact ⟨⟨k + M, by simp, by omega, by omega, HUP, HF4.out⟩, by simp only [intOf]; omega⟩
        · have d6 : decide ((k : Int) < (n : Int) + 1) = false := decide_eq_false (by omega)
          rw [fenP_end i (q + x) k (by omega)] at hfr
          have HFR := Lib.hid hfr
          clear hfr
          go_wp2_with fail
          go_ret
          exact ⟨by rw [HA2.out]; rfl, by rw [HA2.out]; exact HFR.out⟩

set_option maxRecDepth 100000 in
set_option maxHeartbeats 1000000 in
theorem sumFindNeg (x : Int) (p : Value) (w : World) (hx : x < 0) :
    Calls Try.prog 18 #[p, .int .i64 x] w fun e w' => e = .returned (.tuple #[.int .i64 0, .int .i64 1]) ∧ w = w' := by
  have d1 : decide (x < 0) = true := decide_eq_true hx
  go_enter Try.func18, Try.ntmps18
  go_wp2_with fail
  go_ret2
  exact ⟨rfl, rfl⟩
/-- the slice that the box holds, and what lies in it -/
theorem Fr.box {w0 w : World} {L : List Ent} {v : List Int} {n B G : Nat} (h : Fr w0 w (treeE G v n :: boxE B G n :: L)) :
    w.cell? ⟨B, 0, .none⟩ = some (.slice (some ⟨G, 0, .none⟩) (n + 1) (n + 1)) ∧ Sa w (some ⟨G, 0, .none⟩) (ints (fenL v n)) := by
  obtain ⟨_, e, _, _, c0, -⟩ := h.swap.open (by simp)
  cases e
  exact ⟨c0 0 (by simp), h.get 0 rfl⟩
/-- what is found -/
theorem sumFind' (v : List Int) (n k : Nat) (x : Int) (B G : Nat) (w : World) (hv : VOk v n) (hx : 0 ≤ x) (hx2 : x ≤ 9223372036854775807) (hk : k < n) (k1 : pre v k ≤ x) (k2 : x < pre v (k + 1)) (hc : w.cell? ⟨B, 0, none⟩ = some (.slice (some ⟨G, 0, none⟩) (n + 1) (n + 1))) (h : Sa w (some ⟨G, 0, none⟩) (ints (fenL v n))) :
    Calls Try.prog 18 #[.pointer (some ⟨B, 0, none⟩), .int .i64 x] w fun e w' => e = .returned (.tuple #[.int .i64 k, .int .i64 0]) ∧ w = w' := by
  refine (sumFind v n x B G w hv hx hx2 hc h).mono ?_
  rintro e w' ⟨rfl, j, hj, j1, hj2⟩
  rcases hj2 with ⟨rfl, -⟩ | ⟨-, j2, rfl⟩
  · have := pre_le hv (show k + 1 ≤ j by omega); omega
  · rw [find_uniq hv x j k j1 j2 k1 k2]; exact ⟨rfl, rfl⟩
end Go.Proofs.Ytgblmbhbbjgdiaa
