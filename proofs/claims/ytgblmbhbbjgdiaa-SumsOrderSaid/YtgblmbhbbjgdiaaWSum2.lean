/- The walk of the law SumsOrder. -/
import Derived.Test.YtgblmbhbbjgdiaaWSum
namespace Go.Proofs.Ytgblmbhbbjgdiaa
open Go.RowKit

def sumF (f : Nat → Int) : Nat → Int
  | 0 => 0
  | k + 1 => sumF f k + f k
theorem sumF_rev (f : Nat → Int) (n : Nat) : ∀ k, k ≤ n → sumF (fun t => f (n - 1 - t)) k = sumF f n - sumF f (n - k)
  | 0, _ => by simp [sumF]
  | k + 1, h => by
    rw [sumF, sumF_rev f n k (by omega)]
    have e : n - k = (n - (k + 1)) + 1 := by omega
    rw [e, sumF, show n - 1 - k = n - (k + 1) from by omega]; omega
theorem sumF_bd (f : Nat → Int) (h : ∀ t, 0 ≤ f t ∧ f t ≤ 99) : ∀ k : Nat, 0 ≤ sumF f k ∧ sumF f k ≤ 99 * k
  | 0 => by simp [sumF]
  | k + 1 => by
    have := sumF_bd f h k
    have := h k
    rw [sumF]; omega
/-- what the t-th pair gives to the place j -/
def gives (l : List Int) (n j : Nat) (t : Nat) : Int := if nth l (t * 2) % (n : Int) = j then nth l (t * 2 + 1) % 100 else 0
theorem gives_bd (l : List Int) (n j t : Nat) : 0 ≤ gives l n j t ∧ gives l n j t ≤ 99 := by
  unfold gives; split <;> omega
/-- what holds behind k pairs of len, taken by g -/
def Got (l : List Int) (n len : Nat) (g : Nat → Nat) (k : Nat) (v : List Int) : Prop := VOk v n ∧ (len ≤ 100000 → ∀ j, j < n → nth v j = sumF (fun t => gives l n j (g t)) k)
theorem got_zero (l : List Int) (n len : Nat) (g : Nat → Nat) (h1 : 1 ≤ n) (h2 : n ≤ 64) : Got l n len g 0 (List.replicate n 0) := ⟨zero_ok n h1 h2, fun _ j hj => by rw [nth_rep _ _ _ hj]; rfl⟩
theorem got_small {l : List Int} {n len : Nat} {g : Nat → Nat} {k : Nat} {v : List Int} (h : Got l n len g k v) (hk : k ≤ len) (hl : len ≤ 100000) (j : Nat) (hj : j < n) : 0 ≤ nth v j ∧ nth v j ≤ 9900000 := by
  have := sumF_bd (fun t => gives l n j (g t)) (fun t => gives_bd l n j (g t)) k
  rw [h.2 hl j hj]; omega
theorem got_step {l : List Int} {n len : Nat} {g : Nat → Nat} {k : Nat} {v : List Int} (h : Got l n len g k v) (hk : k < len) (i : Nat) (hi : nth l (g k * 2) % (n : Int) = i) (hin : i < n) (x : Int) (hx : nth l (g k * 2 + 1) % 100 = x) : Got l n len g (k + 1) (addV v i x).1 := by
  refine ⟨addV_ok h.1 i hin x, fun hl j hj => ?_⟩
  have sm := got_small h (by omega) hl i hin
  have x1 : 0 ≤ x ∧ x ≤ 99 := by omega
  unfold addV
  rw [if_neg (by omega), if_neg (by omega)]
  simp only
  rw [nth_set _ _ _ _ (by rw [h.1.len]; exact hin), sumF, ← h.2 hl j hj]
  unfold gives
  by_cases e : j = i
  · subst e; rw [if_pos rfl, if_pos hi, hx]
  · rw [if_neg e, if_neg (by omega)]; omega
theorem got_same {l : List Int} {n len : Nat} {v u : List Int} (h : Got l n len (fun t => t) len v) (h' : Got l n len (fun t => len - 1 - t) len u) (hl : len ≤ 100000) : v = u := by
  refine ext_nth (by rw [h.1.len, h'.1.len]) (fun j hj => ?_)
  rw [h.1.len] at hj
  rw [h.2 hl j hj, h'.2 hl j hj, sumF_rev (fun t => gives l n j t) len len (Nat.le_refl _), Nat.sub_self, sumF, Int.sub_zero]
/-- added and taken away -/
theorem add_back {v : List Int} {n : Nat} (h : VOk v n) (i : Nat) (hi : i < n) (x : Int) (_h0 : 0 ≤ x) (he : (addV v i x).2 = 0) : addV (addV v i x).1 i (-x) = (v, 0) := by
  unfold addV at he ⊢
  have hb := h.bd i
  by_cases h1 : nth v i + x < 0
  · rw [if_pos h1] at he; simp at he
  · rw [if_neg h1] at he ⊢
    by_cases h2 : 1000000000 < nth v i + x
    · rw [if_pos h2] at he; simp at he
    · rw [if_neg h2]
      simp only
      have e : nth (v.set i (nth v i + x)) i = nth v i + x := by rw [nth_set _ _ _ _ (by rw [h.len]; exact hi), if_pos rfl]
      rw [e, if_neg (by omega), if_neg (by omega), List.set_set]
      have e2 : nth v i + x + -x = nth v i := by omega
      rw [e2]
      refine Prod.ext ?_ rfl
      refine ext_nth (by rw [List.length_set]) (fun j hj => ?_)
      rw [List.length_set] at hj
      rw [nth_set _ _ _ _ (by rw [h.len]; exact hi)]
      split
      · rename_i e; rw [e]
      · rfl

set_option maxRecDepth 100000 in
set_option maxHeartbeats 8000000 in
theorem sumsOrder_any (n0 i0 x0 : Int) (l : List Int) (len : Nat) (a : Option Addr) (cap : Nat) (w : World) (h : Sa w a (ints l)) (hl : l.length = 2 * len) (hm : len ≤ maxLen) :
    Calls Try.prog 4 #[.int .i64 n0, .slice a len cap, .int .i64 i0, .int .i64 x0] w fun e w' => e = .returned (.bool true) ∧ Below w.heap.size w w' := by
  unfold maxLen at hm
  have HS := Lib.hid h; have HL := Lib.hid hl
  obtain ⟨n, hn, n1, n64⟩ : ∃ n : Nat, 1 + n0 % 64 = (n : Int) ∧ 1 ≤ n ∧ n ≤ 64 := ⟨(1 + n0 % 64).toNat, by omega, by omega, by omega⟩
  have HN := Lib.hid hn
  have Z1 := Lib.hid (got_zero l n len (fun t => t) n1 n64)
  have Z2 := Lib.hid (got_zero l n len (fun t => len - 1 - t) n1 n64)
  clear h hl
  go_enter Try.func4, Try.ntmps4
  go_wp2_with fail
  refine (sumsLive_any _).mono ?_; rintro e w1 ⟨rfl, hb⟩
  have F0 := (Fr.start w).keep hb
  clear hb
  go_wp2_with fail
  refine (within_any _ _ _ (by omega) (by omega)).mono ?_; rintro e w' ⟨rfl, rfl⟩
  go_wp2_with fail
  clear hn
  refine (sumNew n _ n1 n64).mono ?_; rintro e w2 ⟨B, G, hBG, rfl, hf⟩
  have F1 := F0.call hf
  clear F0 hf
  go_wp2_with fail
  refine (sumNew n _ n1 n64).mono ?_; rintro e w3 ⟨C, K, hCK, rfl, hf⟩
  have F2 := F1.call hf
  clear F1 hf
  go_wp2_with fail
  refine (good2b _ w3.heap.size _ rfl).mono ?_; rintro e w' ⟨rfl, rfl⟩
  have F3 := F2.alloc (.cells #[.int .i64 0, .int .i64 0] 26)
  clear F2
  go_wp2_with fail
  go_loopw [50] (fun i wr => ∃ (k : Nat) (v u : List Int), i = .int .i64 k ∧ k ≤ len ∧ Hid (Got l n len (fun t => t) k v) ∧ Hid (Got l n len (fun t => len - 1 - t) k u) ∧ Fr w wr [treeE K u n, boxE C K n, treeE G v n, boxE B G n]) (fun i _ => len - (intOf i).toNat)
  case atStart => exact ⟨0, _, _, rfl, by omega, Z1, Z2, F3⟩
  case round =>
    obtain ⟨k, v, u, rfl, hk, HV, HU, hfr⟩ := hrel
    clear F3
    by_cases hlt : k < len
    · obtain ⟨b, off, rfl, hb, c1⟩ := (hfr.old HS.out).int (k * 2) (by rw [HL.out]; omega)
      obtain ⟨_, _, e, _, c2⟩ := (hfr.old HS.out).int (k * 2 + 1) (by rw [HL.out]; omega)
      cases e
      obtain ⟨r, hr⟩ : ∃ r : Nat, r = len - 1 - k := ⟨_, rfl⟩
      obtain ⟨_, _, e, _, c3⟩ := (hfr.old HS.out).int (r * 2) (by rw [HL.out]; omega)
      cases e
      obtain ⟨_, _, e, _, c4⟩ := (hfr.old HS.out).int (r * 2 + 1) (by rw [HL.out]; omega)
      cases e
      have hstep := fun i hi hin x hx => got_step HV.out hlt i hi hin x hx
      have hstep' := fun i hi hin x hx => got_step HU.out hlt i hi hin x hx
      rw [← hr] at hstep'
      obtain ⟨y, hy⟩ : ∃ y, nth l (k * 2) = y := ⟨_, rfl⟩
      obtain ⟨z, hz⟩ : ∃ z, nth l (k * 2 + 1) = z := ⟨_, rfl⟩
      obtain ⟨y', hy'⟩ : ∃ y, nth l (r * 2) = y := ⟨_, rfl⟩
      obtain ⟨z', hz'⟩ : ∃ z, nth l (r * 2 + 1) = z := ⟨_, rfl⟩
      rw [hy] at c1 hstep
      rw [hz, ← Nat.add_assoc] at c2
      rw [hz] at hstep
      rw [hy'] at c3 hstep'
      rw [hz', ← Nat.add_assoc] at c4
      rw [hz'] at hstep'
      obtain ⟨i, hi, hin⟩ : ∃ i : Nat, y % (n : Int) = i ∧ i < n := ⟨(y % (n : Int)).toNat, by have := Int.emod_nonneg y (b := (n : Int)) (by omega); omega, by have := Int.emod_nonneg y (b := (n : Int)) (by omega); have := Int.emod_lt_of_pos y (b := (n : Int)) (by omega); omega⟩
      obtain ⟨i', hi', hin'⟩ : ∃ i : Nat, y' % (n : Int) = i ∧ i < n := ⟨(y' % (n : Int)).toNat, by have := Int.emod_nonneg y' (b := (n : Int)) (by omega); omega, by have := Int.emod_nonneg y' (b := (n : Int)) (by omega); have := Int.emod_lt_of_pos y' (b := (n : Int)) (by omega); omega⟩
      have x1 := Int.emod_nonneg z (b := 100) (by omega)
      have x2 := Int.emod_lt_of_pos z (b := 100) (by omega)
      have x3 := Int.emod_nonneg z' (b := 100) (by omega)
      have x4 := Int.emod_lt_of_pos z' (b := 100) (by omega)
      obtain ⟨x, hx⟩ : ∃ u, z % 100 = u := ⟨_, rfl⟩
      obtain ⟨x', hx'⟩ : ∃ u, z' % 100 = u := ⟨_, rfl⟩
      rw [hx] at x1 x2
      rw [hx'] at x3 x4
      have HV2 := Lib.hid (hstep i hi hin x hx)
      have HU2 := Lib.hid (hstep' i' hi' hin' x' hx')
      have HY' := Lib.hid hy'; have HZ' := Lib.hid hz'
      have HI := Lib.hid hi; have HX := Lib.hid hx; have HI' := Lib.hid hi'; have HX' := Lib.hid hx'
      have d1 : (0 : Int) ≤ (k : Int) := by omega
      have d2 : (k : Int) < (len : Int) := by omega
      have d3 : (len : Int) - 1 - (k : Int) = (r : Int) := by omega
      have d4 : (0 : Int) ≤ (r : Int) := by omega
      have d5 : (r : Int) < (len : Int) := by omega
      have HF := Lib.hid (((hfr.perm (M := [treeE G v n, boxE B G n, treeE K u n, boxE C K n]) (List.perm_append_comm (l₁ := [treeE K u n, boxE C K n]) (l₂ := [treeE G v n, boxE B G n])))).drew)
      clear hfr hstep hstep' hy hz hy' hz' hi hi' hx hx' hr
      go_wp2_with fail
      go_region_with (first
        | (go_at_call 16; refine (sumAdd v n i x B G _ HV.out.1 hin (by omega) (by omega) hBG HF.out).mono ?_; rintro e w4 ⟨rfl, hf4⟩; have HF4 := Lib.hid hf4; clear hf4)
        | (go_at_call_of 14 (Value.int .i64 y); refine (within_any _ _ _ (by omega) (by omega)).mono ?_; rintro e w' ⟨rfl, rfl⟩; rw [HI.out])
        | (go_at_call 14; refine (within_any _ _ _ (by omega) (by omega)).mono ?_; rintro e w' ⟨rfl, rfl⟩; rw [HX.out]))
      all_goals
        obtain ⟨_, _, e, _, g1⟩ := (HF4.out.old HS.out).int (r * 2) (by rw [HL.out]; omega)
        cases e
        obtain ⟨_, _, e, _, g2⟩ := (HF4.out.old HS.out).int (r * 2 + 1) (by rw [HL.out]; omega)
        cases e
        have g1' : w4.cell? ⟨b, off + r * 2, none⟩ = some (.int .i64 y') := g1.trans (by rw [HY'.out])
        have g2' : w4.cell? ⟨b, off + r * 2 + 1, none⟩ = some (.int .i64 z') := g2.trans (by rw [HZ'.out])
        have HF5 := Lib.hid ((((HF4.out.perm (M := [treeE K u n, boxE C K n, treeE G (addV v i x).1 n, boxE B G n]) (List.perm_append_comm (l₁ := [treeE G (addV v i x).1 n, boxE B G n]) (l₂ := [treeE K u n, boxE C K n]))).alloc (.cells #[.int .i64 y', .int .i64 z'] 29)).drew))
        clear g1 g2 c1 c2 c3 c4
        go_wp2_with fail
        go_region_with (first
          | (go_at_call 16; refine (sumAdd u n i' x' C K _ HU.out.1 hin' (by omega) (by omega) hCK HF5.out).mono ?_; rintro e w5 ⟨rfl, hf5⟩; have HF6 := Lib.hid hf5; clear hf5)
          | (go_at_call_of 14 (Value.int .i64 y'); refine (within_any _ _ _ (by omega) (by omega)).mono ?_; rintro e w' ⟨rfl, rfl⟩; rw [HI'.out])
          | (go_at_call 14; refine (within_any _ _ _ (by omega) (by omega)).mono ?_; rintro e w' ⟨rfl, rfl⟩; rw [HX'.out]))
        all_goals
          go_wp2_with fail
          exact ⟨⟨k + 1, _, _, by simp, by omega, HV2, HU2, HF6.out⟩, by simp only [intOf]; omega⟩
    · obtain rfl : k = len := by omega
      have HF := Lib.hid (hfr.perm (M := [treeE G v n, boxE B G n, treeE K u n, boxE C K n]) (List.perm_append_comm (l₁ := [treeE K u n, boxE C K n]) (l₂ := [treeE G v n, boxE B G n])))
      obtain ⟨I, hI, hIn⟩ : ∃ i : Nat, i0 % (n : Int) = i ∧ i < n := ⟨(i0 % (n : Int)).toNat, by have := Int.emod_nonneg i0 (b := (n : Int)) (by omega); omega, by have := Int.emod_nonneg i0 (b := (n : Int)) (by omega); have := Int.emod_lt_of_pos i0 (b := (n : Int)) (by omega); omega⟩
      have x1 := Int.emod_nonneg x0 (b := 1000) (by omega)
      have x2 := Int.emod_lt_of_pos x0 (b := 1000) (by omega)
      obtain ⟨X, hX⟩ : ∃ u, x0 % 1000 = u := ⟨_, rfl⟩
      rw [hX] at x1 x2
      have HI := Lib.hid hI; have HX := Lib.hid hX
      have HSAME : Hid (k ≤ 100000 → v = u) := Lib.hid (fun h => got_same HV.out HU.out h)
      have HSM : Hid (k ≤ 100000 → nth v I ≤ 9900000) := Lib.hid (fun h => (got_small HV.out (Nat.le_refl _) h I hIn).2)
      have HVO := Lib.hid HV.out.1; have HUO := Lib.hid HU.out.1
      clear hfr hI hX HV HU
      go_wp2_with fail
      refine (within_any _ _ _ (by omega) (by omega)).mono ?_; rintro e w' ⟨rfl, rfl⟩
      rw [HI.out]
      go_wp2_with fail
      refine (within_any _ _ _ (by omega) (by omega)).mono ?_; rintro e w' ⟨rfl, rfl⟩
      rw [HX.out]
      go_wp2_with fail
      refine (sumAdd v n I X B G _ HVO.out hIn (by omega) (by omega) hBG HF.out).mono ?_; rintro e w4 ⟨rfl, hf4⟩
      have HF4 := Lib.hid hf4
      obtain ⟨er, her⟩ : ∃ er, (addV v I X).2 = er := ⟨_, rfl⟩
      rw [her]
      clear hf4
      by_cases he : er = 0
      · subst he
        have HB := Lib.hid (add_back HVO.out I hIn X x1 her)
        have HV4 := Lib.hid (addV_ok HVO.out I hIn X)
        clear her
        go_wp2_with fail
        refine (sumAdd (addV v I X).1 n I (-X) B G _ HV4.out hIn (by omega) (by omega) hBG HF4.out).mono ?_; rintro e w5 ⟨rfl, hf5⟩
        rw [HB.out] at hf5 ⊢
        have HF5 := Lib.hid hf5
        clear hf5
        go_wp2_with fail
        go_loop [109] (fun i => ∃ t : Nat, i = .int .i64 t ∧ t ≤ n + 1) (fun i => n + 1 - (intOf i).toNat)
        case atStart => exact ⟨0, rfl, by omega⟩
        case round =>
          obtain ⟨t, rfl, ht⟩ := hrel
          by_cases htn : t ≤ n
          · have d1 : (t : Int) < (n : Int) + 1 := by omega
            go_wp2_with fail
            refine (sumAhead v n t B G _ HVO.out htn HF5.out.box.1 HF5.out.box.2).mono ?_; rintro e w' ⟨rfl, rfl⟩
            go_wp2_with fail
            have FU := HF5.out.perm (M := [treeE K u n, boxE C K n, treeE G v n, boxE B G n]) (List.perm_append_comm (l₁ := [treeE G v n, boxE B G n]) (l₂ := [treeE K u n, boxE C K n]))
            refine (sumAhead u n t C K _ HUO.out htn FU.box.1 FU.box.2).mono ?_; rintro e w' ⟨rfl, rfl⟩
            clear FU
            have HNE : Hid (pre v t ≠ pre u t → ¬ k ≤ 100000) := Lib.hid (fun h hk => h (by rw [HSAME.out hk]))
            obtain ⟨p, hp⟩ : ∃ p, pre v t = p := ⟨_, rfl⟩
            obtain ⟨q, hq⟩ : ∃ q, pre u t = q := ⟨_, rfl⟩
            rw [hp, hq] at HNE
            rw [hp, hq]
            clear hp hq
            by_cases hpq : p = q
            · subst hpq
              have z : (p != p) = false := by simp
              go_wp2_with fail
              go_round
              case rel => exact ⟨t + 1, by go_num, by omega⟩
              case measure => simp only [intOf]; omega
            · have hk := HNE.out hpq
              have z : (p != q) = true := bne_iff_ne.2 hpq
              have z2 : decide ((100000 : Int) < (k : Int)) = true := decide_eq_true (by omega)
              go_wp2_with fail
              go_ret
              exact ⟨rfl, HF5.out.bel⟩
          · have d1 : decide ((t : Int) < (n : Int) + 1) = false := decide_eq_false (by omega)
            go_wp2_with fail
            go_ret
            exact ⟨rfl, HF5.out.bel⟩
      · have hk : ¬ k ≤ 100000 := fun hk => by
          have := HSM.out hk
          have hb := HVO.out.bd I
          unfold addV at her
          rw [if_neg (by omega), if_neg (by omega)] at her
          exact he her.symm
        have z : (er != 0) = true := bne_iff_ne.2 he
        have z2 : decide ((100000 : Int) < (k : Int)) = true := decide_eq_true (by omega)
        clear her he
        go_wp2_with fail
        go_ret
        exact ⟨rfl, HF4.out.bel⟩
end Go.Proofs.Ytgblmbhbbjgdiaa
