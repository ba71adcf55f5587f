/- The walk of the law WarpStride. -/
import Derived.Test.YtgblmbhbbjgdiaaWWar2
import Derived.Test.YtgblmbhbbjgdiaaStr
import Derived.Test.YtgblmbhbbjgdiaaSlMM
namespace Go.Proofs.Ytgblmbhbbjgdiaa
open Go.RowKit

theorem cross10 (a b : Int) (ha : 1 ≤ a ∧ a ≤ 10) (hb : 1 ≤ b ∧ b ≤ 10) (x y : Int) : x * (2520 / a) < y * (2520 / b) ↔ x * b < y * a := by
  have h1 : a = 1 ∨ a = 2 ∨ a = 3 ∨ a = 4 ∨ a = 5 ∨ a = 6 ∨ a = 7 ∨ a = 8 ∨ a = 9 ∨ a = 10 := by omega
  have h2 : b = 1 ∨ b = 2 ∨ b = 3 ∨ b = 4 ∨ b = 5 ∨ b = 6 ∨ b = 7 ∨ b = 8 ∨ b = 9 ∨ b = 10 := by omega
  rcases h1 with rfl | rfl | rfl | rfl | rfl | rfl | rfl | rfl | rfl | rfl <;> rcases h2 with rfl | rfl | rfl | rfl | rfl | rfl | rfl | rfl | rfl | rfl <;> omega
def shL (z : List Int) : List Int := z.map fun v => 1 + v % 10
theorem shL_nth (z : List Int) (i : Nat) (h : i < z.length) : nth (shL z) i = 1 + nth z i % 10 := nth_map _ z i h
theorem shL_bd (z : List Int) (i : Nat) (h : i < z.length) : 1 ≤ nth (shL z) i ∧ nth (shL z) i ≤ 10 := by
  rw [shL_nth z i h]
  have r1 := Int.emod_nonneg (nth z i) (b := 10) (by omega)
  have r2 := Int.emod_lt_of_pos (nth z i) (b := 10) (by omega)
  omega
/-- the runners say what stride's holders had -/
def Like (L : List Rn) (S had : List Int) (k : Nat) : Prop := ∀ i, i < k → rnA L i = ⟨nth S i, 0, true, false, nth had i * (2520 / nth S i)⟩
theorem like_best {L : List Rn} {S had : List Int} {k : Nat} (h : Like L S had k) (hs : ∀ i, i < k → 1 ≤ nth S i ∧ nth S i ≤ 10) : ∀ j, j ≤ k → besW L j = bestL S had j
  | 0, _ => rfl
  | j + 1, hj => by
    have ih := like_best h hs j (by omega)
    have hb := bestL_lt S had j
    have hj' := h j (by omega)
    have s1 := hs j (by omega)
    rw [besW, bestL, ih, hj']
    by_cases h0 : bestL S had j < 0
    · rw [if_pos ⟨rfl, .inl h0⟩, if_pos ⟨by omega, .inl h0⟩]
    · have hB := h (bestL S had j).toNat (by omega)
      have s2 := hs (bestL S had j).toNat (by omega)
      rw [hB]
      have hc := cross10 _ _ s1 s2 (nth had j) (nth had (bestL S had j).toNat)
      unfold eW
      simp only [Bool.false_eq_true, if_false]
      by_cases hlt : nth had j * nth S (bestL S had j).toNat < nth had (bestL S had j).toNat * nth S j
      · rw [if_pos ⟨trivial, .inr (hc.2 hlt)⟩, if_pos ⟨by omega, .inr hlt⟩]
      · rw [if_neg (fun e => by rcases e.2 with e | e; exact h0 e; exact hlt (hc.1 e)), if_neg (fun e => by rcases e.2 with e | e; exact h0 e; exact hlt e)]
theorem like_at (z : List Int) (k : Nat) (hk : z.length = k) (h1 : 1 ≤ k) : ∀ t, Like (stL (thrL z) [] t) (shL z) (hadAt (shL z) t) k
  | 0 => fun i hi => by
    rw [stL, rnA_zero _ _ (by simp [thrL]; omega), thrL_at z i (by omega), shL_nth z i (by omega), hadAt, nth_rep _ _ _ (by simp [shL]; omega)]
    simp
  | t + 1 => fun i hi => by
    have ih := like_at z k hk h1 t
    have hs : ∀ i, i < k → 1 ≤ nth (shL z) i ∧ nth (shL z) i ≤ 10 := fun i hi => shL_bd z i (by omega)
    have hlen : (shL z).length = k := by simp [shL, hk]
    have hso : Some1 (shL z) := ⟨0, by omega, by have := hs 0 (by omega); omega⟩
    obtain ⟨b0, b1, b2, b3⟩ := bst_of (had := hadAt (shL z) t) hso
    have hb := like_best ih hs k (Nat.le_refl _)
    rw [hlen] at b0 b1
    have hlT : (thrL z).length = k := by simp [thrL, hk]
    rw [stL_succ, evL_nil, hlT, hb, b0, bumpW_nth _ _ (by rw [stL_len, hlT]; omega), hadAt, bump_nth _ _ _ (by rw [hadAt_len, hlen]; exact b1), ih i hi]
    by_cases e : i = bst (shL z) (hadAt (shL z) t)
    · rw [if_pos (by omega), if_pos e, ← e, Int.add_mul, Int.one_mul]
    · rw [if_neg (by omega), if_neg e]
theorem ran_is_run (z : List Int) (k : Nat) (hk : z.length = k) (h1 : 1 ≤ k) (t : Nat) : ranW (thrL z) [] t = runS (shL z) t := by
  unfold ranW runS
  apply List.map_congr_left
  intro s _
  have hs : ∀ i, i < k → 1 ≤ nth (shL z) i ∧ nth (shL z) i ≤ 10 := fun i hi => shL_bd z i (by omega)
  have hlen : (shL z).length = k := by simp [shL, hk]
  have hso : Some1 (shL z) := ⟨0, by omega, by have := hs 0 (by omega); omega⟩
  obtain ⟨b0, b1, b2, b3⟩ := bst_of (had := hadAt (shL z) s) hso
  rw [evL_nil, show (thrL z).length = k by simp [thrL, hk], like_best (like_at z k hk h1 s) hs k (Nat.le_refl _), ← hlen, b0]
theorem ran_none (u : Nat) : ranW [] [] u = List.replicate u (-1) := by
  apply List.ext_getElem
  · simp [ranW]
  · intro i h1 h2
    simp [ranW, besW]
theorem maxK_rep (v : Int) (u : Nat) (h : 0 < u) : ∀ n, n ≤ u → maxK (List.replicate u v) n = v
  | 0, _ => nth_rep _ _ _ h
  | n + 1, hn => by
    rw [maxK, maxK_rep v u h n (by omega), nth_rep _ _ _ (by omega)]; simp

set_option maxRecDepth 100000 in
set_option maxHeartbeats 8000000 in
theorem warpStride_any (z : List Int) (n : Nat) (a : Option Addr) (ca : Nat) (u : Int) (w : World) (h : Sa w a (ints z)) (hn : z.length = n) (hc : n ≤ ca) :
    Calls Try.prog 10 #[.slice a n ca, .int .i64 u] w fun e w' => e = .returned (.bool true) ∧ Below w.heap.size w w' := by
  have HN := Lib.hid hn; have HS := Lib.hid h
  clear h hn
  go_enter Try.func10, Try.ntmps10
  go_wp2_with fail
  refine (warps_any _).mono ?_; rintro e w1 ⟨rfl, hb⟩
  have HF1 := Lib.hid ((Fr.start w).keep hb)
  clear hb
  go_wp2_with fail
  refine (strides_any _).mono ?_; rintro e w2 ⟨rfl, hb⟩
  have HF2 := Lib.hid (HF1.out.keep hb)
  clear hb HF1
  go_wp2_with fail
  refine (threads_any z n _ _ _ (HF2.out.old HS.out) HN.out hc).mono ?_; rintro e w3 ⟨ad, k, cp, rfl, hkn, _, k8, hcp, hfb⟩
  have hzl : (z.take k).length = k := by rw [List.length_take, HN.out]; omega
  have HT := Lib.hid (ThOk.of (z.take k) k hzl)
  have HLK := Lib.hid (fun h1 t => ran_is_run (z.take k) k hzl h1 t)
  have hsl : (shL (z.take k)).length = k := by rw [shL, List.length_map, hzl]
  have hsb : ∀ i, i < k → 1 ≤ nth (shL (z.take k)) i ∧ nth (shL (z.take k)) i ≤ 10 := fun i hi => shL_bd _ i (by omega)
  have hsa : ∀ i, i < k → (rnA (thrL (z.take k)) i).sh = nth (shL (z.take k)) i := fun i hi => by
    rw [thrL_at _ i (by omega), shL_nth _ i (by omega)]
  have h00 : k = 0 → thrL (z.take k) = [] := fun e => by subst e; rfl
  obtain ⟨L, hL⟩ : ∃ L, thrL (z.take k) = L := ⟨_, rfl⟩
  obtain ⟨S, hS⟩ : ∃ S, shL (z.take k) = S := ⟨_, rfl⟩
  rw [hL] at hfb HT hsa h00
  simp only [hL, hS] at HLK
  rw [hS] at hsl hsb hsa
  have HB := Lib.hid (hfb.nilSlice 3)
  have HSL := Lib.hid hsl; have HSB := Lib.hid hsb; have HSA := Lib.hid hsa; have H00 := Lib.hid h00
  have r1 := Int.emod_nonneg u (b := 201) (by omega)
  have r2 := Int.emod_lt_of_pos u (b := 201) (by omega)
  obtain ⟨x, hx⟩ : ∃ x : Nat, u % 201 = x := ⟨(u % 201).toNat, by omega⟩
  have HX := Lib.hid hx
  have hx2 : x ≤ 200 := by omega
  clear hfb hzl hL hS hsl hsb hsa h00 hx r1 r2
  go_wp2_with (go_at_call 14; refine (within_any _ _ _ (by omega) (by omega)).mono ?_; rintro e w' ⟨rfl, rfl⟩; rw [HX.out])
  go_loopw [6, 26] (fun s6 s26 wr => ∃ (j : Nat) (sd : Option Addr) (sc : Nat), j ≤ k ∧ s26 = .int .i64 j ∧ s6 = .slice sd j sc ∧ Hid (FB w2 wr 51 ad (ths L) [⟨3, .slice sd j sc, ints (S.take j)⟩])) (fun _ s _ => k - (intOf s).toNat)
  case atStart => exact ⟨0, none, 0, by omega, rfl, rfl, HB⟩
  case round =>
    clear HB
    obtain ⟨j, sd, sc, hj, rfl, rfl, HB⟩ := hrel
    by_cases hlt : j < k
    · obtain ⟨b', off, rfl, hb, c0, c1, c2, c3⟩ := HB.out.sa.thA j (by rw [HT.out.len]; exact hlt)
      have htk := take_nth S j (by rw [HSL.out]; exact hlt)
      have hsa := HSA.out j hlt
      obtain ⟨⟨sh, wa, th, ah, ps⟩, hr⟩ : ∃ r, rnA L j = r := ⟨_, rfl⟩
      rw [hr] at c0 c1 c2 c3 hsa
      simp only at c0 c1 c2 c3 hsa
      rw [← hsa] at htk
      have HTK := Lib.hid htk
      have HB2 := Lib.hid (HB.out.alloc (.cells #[.int .i64 sh, .int .i64 wa, .bool th, .bool ah] 51))
      have i1 : (0 : Int) ≤ (j : Int) := by omega
      have i2 : (j : Int) < (k : Int) := by omega
      clear hr hsa htk HB
      go_wp2_with (with_reducible refine at_slot 34 ?_; go_must (refine wpList_pushFB rfl _ _ rfl 51 (some ⟨b', off, none⟩) (ths L) sd j sc (S.take j) sh [] rfl HB2.out _ (by simp) rfl ?_ ?_); rotate_left; intro sd' sc' w4 hf hlt4)
      · rw [← HTK.out] at hf
        exact ⟨⟨j + 1, sd', sc', by omega, by simp, rfl, Lib.hid hf⟩, by simp only [intOf]; omega⟩
      · omega
    · obtain rfl : j = k := by omega
      have hck := chkW_nil L j HT.out.len k8 HT.out.ok
      have HC := Lib.hid hck
      have hbt := HB.out
      rw [List.take_of_length_le (by rw [HSL.out]; exact Nat.le_refl _)] at hbt
      have HBT := Lib.hid hbt
      clear hck HB hbt
      go_wp2_with fail
      refine (warPlay_yes L [] j 0 x _ _ _ _ _ HBT.out.sa (Sa.nil _ _) HT.out.len rfl (by omega) HC.out hx2).mono ?_; rintro e w4 ⟨rd, rc, ed, ec, rfl, _, _, hf⟩
      have HF4 := Lib.hid (HBT.out.fr.call hf)
      have HB4 : Hid (Below w.heap.size w w4) := Lib.hid (HF2.out.keep (HBT.out.keep hf.bel).bel).bel
      clear hf
      by_cases hj0 : j = 0
      · have hrn : ranW L [] x = List.replicate x (-1) := by rw [H00.out hj0]; exact ran_none x
        have hS0 : ¬ Some1 S := fun ⟨i, hi, _⟩ => by rw [HSL.out] at hi; omega
        have HF5 := HF4.out
        rw [hrn] at HF5
        have HF5 := Lib.hid HF5
        have HNO := Lib.hid hS0
        have z1 : ((j : Int) == 0) = true := by rw [beq_iff_eq]; omega
        have z2 : ((x : Int) == (x : Int)) = true := by simp
        have HTK : Hid (TkOk S) := Lib.hid ⟨by rw [HSL.out]; omega, fun i hi => by rw [HSL.out] at hi; omega⟩
        clear hrn hS0 HF4 hj0
        have hF2 := HF5.out.get 2 rfl
        go_wp2_with fail
        refine (strRun_no S j x _ _ _ hF2 HSL.out HTK.out HNO.out hx2).mono ?_; rintro e w5 ⟨he, hf⟩
        have HF6 := Lib.hid (HF5.out.keep hf.bel)
        have HB5 : Hid (Below w.heap.size w w5) := Lib.hid (kin_trans HB4.out hf.bel)
        clear hf
        rcases he with ⟨h1, rfl⟩ | ⟨h1, rfl⟩
        · have z3 : ((x : Int) == 0) = true := by rw [beq_iff_eq]; omega
          clear h1
          go_wp2_with fail
          go_ret
          exact ⟨rfl, HB5.out⟩
        · have z3 : ((x : Int) == 0) = false := by rw [beq_eq_false_iff_ne]; omega
          have hmx := maxK_rep (-1) x h1 x (Nat.le_refl _)
          have HMX := Lib.hid hmx
          clear hmx
          go_wp2_with fail
          refine (slMaxK (List.replicate x (-1)) x _ _ _ (HF6.out.get 1 rfl) (by simp) h1 (by omega)).mono ?_; rintro e w' ⟨rfl, rfl⟩
          rw [HMX.out]
          go_wp2_with fail
          go_ret
          exact ⟨rfl, HB5.out⟩
      · have HRR := Lib.hid (HLK.out (by omega) x)
        have HSO : Hid (Some1 S) := Lib.hid ⟨0, by rw [HSL.out]; omega, by have := HSB.out 0 (by omega); omega⟩
        have HTK : Hid (TkOk S) := Lib.hid ⟨by rw [HSL.out]; omega, fun i hi => by rw [HSL.out] at hi; have := HSB.out i hi; omega⟩
        have z1 : ((j : Int) == 0) = false := by rw [beq_eq_false_iff_ne]; omega
        have z1' : decide (j = 0) = false := decide_eq_false hj0
        have HF5 := HF4.out
        rw [HRR.out] at HF5
        have hF2 := HF5.get 2 rfl
        have HF5 := Lib.hid HF5
        clear HF4
        go_wp2_with fail
        refine (strRun_yes S j x _ _ _ hF2 HSL.out HTK.out HSO.out hx2).mono ?_; rintro e w5 ⟨sd5, sc5, rfl, _, hf⟩
        have HF6 := Lib.hid (HF5.out.call hf)
        have HB5 : Hid (Below w.heap.size w w5) := Lib.hid (kin_trans HB4.out hf.bel)
        clear hf
        go_wp2_with fail
        refine (good2 _ _).mono ?_; rintro e w' ⟨rfl, rfl⟩
        have HF7 := Lib.hid (HF6.out.alloc (.cells #[.int .i64 0, .int .i64 0] 26))
        have HB6 : Hid (Below w.heap.size w (w5.alloc (.cells #[.int .i64 0, .int .i64 0] 26))) := Lib.hid (kin_alloc HB5.out _)
        go_wp2_with fail
        refine (slEqual (runS S x) (runS S x) x x _ _ _ _ _ (HF7.out.get 2 rfl) (HF7.out.get 0 rfl) (runS_len S x) (runS_len S x) (by omega) (by omega)).mono ?_; rintro e w7 ⟨rfl, hf⟩
        have HB7 : Hid (Below w.heap.size w w7) := Lib.hid (kin_trans HB6.out hf.bel)
        rw [decide_eq_true (rfl : runS S x = runS S x)]
        clear hf
        go_wp2_with fail
        go_ret
        exact ⟨rfl, HB7.out⟩
theorem warpStride_row (a0 : Option Addr) (len0 cap0 : Nat) (z0 : List Int) (u : Int) (w : World) (w0 : IsRow .i64 w a0 len0 cap0 z0) :
    Calls Try.prog 10 #[.slice a0 len0 cap0, .int .i64 u] w fun e w' => e = .returned (.bool true) ∧ Below w.heap.size w w' := by
  obtain ⟨h1, h2, _, _⟩ := w0.sa
  exact warpStride_any _ len0 a0 cap0 u w h1 h2 w0.cap
end Go.Proofs.Ytgblmbhbbjgdiaa
