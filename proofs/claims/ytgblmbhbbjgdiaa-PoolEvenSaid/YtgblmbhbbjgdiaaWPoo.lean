/- The walk of the law PoolEven. -/
import Derived.Test.YtgblmbhbbjgdiaaPooM
import Derived.Test.YtgblmbhbbjgdiaaSub1
import Derived.Maps.OwnOps
import Derived.Maps.Views
import Derived.Deep.DeepCutAuto
import Derived.Deep.CutRange
namespace Go.Proofs.Ytgblmbhbbjgdiaa
open Go.RowKit Go.Maps

theorem lawU : Keyed Try.prog 70 := int_keyed Try.underlying70
theorem zeroI (w : World) : (zeroValue 3).run Try.prog w = .ok (.int .i64 0) w := by kernel_rfl
def kyU (s : Nat) : Lit := .int .u16 (s : Int)
def dI (c : Nat) : DataW Unit := .lit (.int .i64 (c : Int))
/-- what the map reads as behind x rows -/
def dmX (n k : Nat) : Nat → DataW Unit
  | 0 => .map []
  | x + 1 => (dmX n k x).put (kyU (sX n k x)) (dI (cntX n k x (sX n k x) + 1))
theorem dmX_map (n k : Nat) : ∀ x, IsMap (dmX n k x)
  | 0 => isMap_empty
  | x + 1 => (dmX_map n k x).put _ _
theorem kyU_inj {s t : Nat} (h : kyU s = kyU t) : s = t := by
  unfold kyU at h
  simp only [Lit.int.injEq, true_and] at h
  omega
theorem dmX_at (n k : Nat) : ∀ x s, (dmX n k x).atKey (kyU s) (dI 0) = dI (cntX n k x s)
  | 0, s => WideAt.atKey_none _ (fun p hp => by cases hp)
  | x + 1, s => by
    by_cases e : sX n k x = s
    · rw [dmX, cntX, if_pos e, e]
      exact atKey_put_same (dmX_map n k x) (show WideAt.IsKeyLit (kyU s) from trivial) _ _
    · rw [dmX, cntX, if_neg e, atKey_put_other (fun h => e (kyU_inj h).symm), dmX_at n k x s, Nat.add_zero]
abbrev OwnM (n k : Nat) (B x : Nat) (w : World) : Prop := w.ownsMap Try.prog 70 (plainElem (H := Unit) Try.prog 3) B x (dmX n k x)
theorem kyU_of (s : Nat) (h : s < 65536) : keyOf Try.prog 70 (.int .u16 (s : Int)) = some (kyU s) := keyOf_int_mk Try.underlying70 (by
  simp [Lit.wf, go_sem]
  have e1 : IntKind.u16.min = 0 := by decide
  have e2 : IntKind.u16.max = 65535 := by decide
  omega)
/-- what the map has at a choice -/
theorem OwnM.look {n k B x : Nat} {w : World} (h : OwnM n k B x w) (s : Nat) (hs : s < 65536) : (Instr.lookup 68 (.map (some B)) (.int .u16 (s : Int)) false).run Try.prog w = .ok (.int .i64 (cntX n k x s : Nat)) w := by
  obtain ⟨c, hrun, hat, -⟩ := World.ownsMap.lookup_int h lawU Try.underlying68 Try.underlying3 (zeroI w) (kyU_of s hs)
  have h2 := dmX_at n k x s
  rw [show (dI 0 : DataW Unit) = .lit (.int .i64 0) from rfl, hat] at h2
  unfold dI at h2
  simp only [DataW.lit.injEq, Lit.int.injEq, true_and] at h2
  rw [h2] at hrun
  exact hrun
theorem poolCh (l : List Int) (n k : Nat) (a : Option Addr) (ca : Nat) (w : World) (h : Sa w a (ints l)) (hn : l.length = n) (hl : LotsOk l) (h30 : n ≤ 30) (k1 : 1 ≤ k) (k12 : k ≤ 12) :
    Calls Try.prog 37 #[.int .i64 k, .slice a n ca] w (OneSl (insS (runK k l n) (min n k)) (min n k) 0 w) := by
  by_cases h0 : n = 0
  · subst h0
    rw [Nat.zero_min]
    exact poolChosen0 k a ca w k1 k12
  · exact poolChosen l n k a ca w h hn hl h30 (by omega) k1 k12
theorem chosen_facts (n K x : Nat) : (insS (runK K (lotsX x n) n) (min n K)).length = min n K ∧ (∀ y ∈ insS (runK K (lotsX x n) n) (min n K), 0 ≤ y ∧ y < (n : Int)) ∧ orL (insS (runK K (lotsX x n) n) (min n K)) = sX n K x ∧ Nd (insS (runK K (lotsX x n) n) (min n K)) := by
  have hl := runK_len K (lotsX x n) n
  have hp := insS_perm (runK K (lotsX x n) n) (min n K) (by rw [hl]; exact Nat.le_refl _)
  have hb := runK_bd K (lotsX x n) n
  have hnd := runK_nd K (lotsX x n) (fun i hi => (lotsX_ok x n i hi).1) n (by rw [lotsX_len]; exact Nat.le_refl _)
  refine ⟨by rw [← hp.length_eq, hl], fun y hy => hb y (hp.mem_iff.2 hy), ?_, nd_perm hp hnd⟩
  exact (orL_perm hp (fun y hy => (hb y hy).1)).symm
theorem orL_new (c : List Int) (t u : Nat) (ht : t < c.length) (hu : nth c t = u) (hb : ∀ y ∈ c, 0 ≤ y) (hn : Nd c) : orL (c.take t) / 2 ^ u % 2 = 0 := by
  have h1 : ¬ (orL (c.take t)).testBit u = true := fun h => by
    rw [orL_bit u _ (fun y hy => hb y (List.mem_of_mem_take hy))] at h
    obtain ⟨j, hj, e⟩ := List.getElem_of_mem h
    rw [List.length_take] at hj
    rw [List.getElem_take] at e
    have := hn j t (by omega) ht (by rw [hu, ← e]; simp [nth, show j < c.length by omega])
    omega
  rw [Nat.testBit_eq_decide_div_mod_eq, decide_eq_true_iff] at h1
  omega
theorem and16 (z : Nat) (hz : z < 65536) (h : z % 2 = 0) : bits .and .u16 (z : Int) 1 = 0 := by
  have := Go.u16_and_nat z 1 hz (by omega)
  rw [show ((1 : Nat) : Int) = 1 from rfl] at this
  rw [this, Nat.and_one_is_mod, h]; rfl
theorem shl16X : ∀ j : Nat, j < 16 → IntKind.u16.wrap (2 ^ j) = ((2 ^ j : Nat) : Int) := by decide
theorem inc16X : ∀ s : Nat, s < 64 → IntKind.u16.wrap ((s : Int) + 1) = ((s + 1 : Nat) : Int) := by decide
theorem sumN_le (f : Nat → Nat) (a : Nat) : ∀ d, sumN f a ≤ sumN f (a + d)
  | 0 => Nat.le_refl _
  | d + 1 => by rw [show a + (d + 1) = (a + d) + 1 from rfl, sumN]; have := sumN_le f a d; omega
set_option maxRecDepth 100000 in
set_option maxHeartbeats 8000000 in
theorem poolEven_any (a0 a1 : Int) (w : World) :
    Calls Try.prog 11 #[.int .i64 a0, .int .i64 a1] w fun e w' => e = .returned (.bool true) ∧ Below w.heap.size w w' := by
  have hmm := @run_makeMap Try.prog
  obtain ⟨n, hn, n7⟩ : ∃ n : Nat, a0 % 7 = (n : Int) ∧ n < 7 := ⟨(a0 % 7).toNat, by omega, by omega⟩
  obtain ⟨K, hK, K1, K7⟩ : ∃ n : Nat, 1 + a1 % 7 = (n : Int) ∧ 1 ≤ n ∧ n ≤ 7 := ⟨(1 + a1 % 7).toNat, by omega, by omega, by omega⟩
  go_enter Try.func11, Try.ntmps11
  go_wp2_with fail
  refine (pools_any _).mono ?_; rintro e w1 ⟨rfl, hb⟩
  have HF0 := Lib.hid ((Fr.start w).keep hb)
  clear hb
  go_wp2_with fail
  refine (within_any _ _ _ (by omega) (by omega)).mono ?_; rintro e w' ⟨rfl, rfl⟩
  go_wp2_with fail
  refine (within_any _ _ _ (by omega) (by omega)).mono ?_; rintro e w' ⟨rfl, rfl⟩
  go_wp2_with fail
  clear hn hK
  refine (rankCount n _ (by omega)).mono ?_; rintro e w' ⟨rfl, rfl⟩
  go_wp2_with fail
  refine (poolWays n K _ (by omega) K1 (by omega)).mono ?_; rintro e w' ⟨rfl, rfl⟩
  go_upto_region 6 with (fail)
  go_cut [9, 10] from 40 (fun s9 s10 wc => s9 = .int .i64 (chN (max n K) K : Nat) ∧ s10 = .int .i64 0 ∧ Hid (Fr w wc []))
  case first =>
    go_wp2_with fail
    · have hx := Lib.hid (show max n K = K by omega)
      refine (Choose_nat K K _ (by omega) (by omega)).mono ?_; rintro e w' ⟨rfl, rfl⟩
      go_wp2_with fail
      go_meet
      exact ⟨by rw [hx.out], rfl, HF0⟩
    · have hx := Lib.hid (show max n K = n by omega)
      refine (Choose_nat n K _ (by omega) (by omega)).mono ?_; rintro e w' ⟨rfl, rfl⟩
      go_wp2_with fail
      go_meet
      exact ⟨by rw [hx.out], rfl, HF0⟩
  case rest =>
  obtain ⟨rfl, rfl, HF1⟩ := hcut
  clear HF0
  obtain ⟨F, hF⟩ : ∃ F, facN n = F := ⟨_, rfl⟩
  have hF9 := facN_10 n (by omega)
  obtain ⟨W, hW⟩ : ∃ W, waysN n K = W := ⟨_, rfl⟩
  rw [hF] at hF9
  rw [hF, hW]
  have HFF := Lib.hid hF; have HWW := Lib.hid hW
  clear hF hW
  go_wp2_with fail
  refine (good3b _ wc.heap.size _ rfl).mono ?_; rintro e w' ⟨rfl, rfl⟩
  go_wp2_with fail
  obtain ⟨B, hB⟩ : ∃ B, wc.heap.size + 1 = B := ⟨_, rfl⟩
  have HF2 := Lib.hid ((HF1.out.alloc (.cells #[.int .i64 0, .int .i64 0, .int .i64 0] 26)).alloc (.map #[] 0))
  have HM0 : Hid (OwnM n K B 0 ((wc.alloc (.cells #[.int .i64 0, .int .i64 0, .int .i64 0] 26)).alloc (.map #[] 0))) := Lib.hid (by
    subst hB
    have := World.ownsMap_made (wc.alloc (.cells #[.int .i64 0, .int .i64 0, .int .i64 0] 26)) Try.prog 70 (plainElem (H := Unit) Try.prog 3)
    have hsz : (wc.alloc (.cells #[.int .i64 0, .int .i64 0, .int .i64 0] 26)).heap.size = wc.heap.size + 1 := by simp
    rw [hsz] at this
    exact this)
  try rw [hB]
  have HBB := Lib.hid hB
  clear hB hmm
  obtain ⟨m, hm⟩ : ∃ m, min n K = m := ⟨_, rfl⟩
  have HMN := Lib.hid hm
  have HMIN := Lib.hid (run_min2 #[3, 3] 3 n K m (by omega) (by omega) (by omega))
  have m7 : m < 7 := by omega
  clear hm
  have HBW : Hid (w.heap.size ≤ B) := Lib.hid (by have := HBB.out; have := HF1.out.bel.size; omega)
  go_loopw [56] (fun s wr => ∃ x : Nat, x ≤ F ∧ s = .int .i64 x ∧ Hid (OwnM n K B x wr) ∧ Hid (Fr w wr [])) (fun s _ => F - (intOf s).toNat)
  case atStart => exact ⟨0, by omega, rfl, HM0, HF2⟩
  case round =>
    clear HM0 HF2
    obtain ⟨x, hx, rfl, HM, HF⟩ := hrel
    by_cases hlt : x < F
    · have HL0 : Hid (Fr wr wr [⟨3, .slice .none 0 0, ints (lotsX x 0)⟩]) := Lib.hid ((Fr.start wr).nilSlice _)
      go_wp2_with fail
      obtain ⟨wo, hwo⟩ : ∃ wo : World, wo = wr := ⟨_, rfl⟩
      subst hwo
      go_loopw [12, 13, 60] (fun s12 s13 s60 wr => ∃ (i q : Nat) (A : Option Addr) (C : Nat), i ≤ n ∧ q ≤ x ∧ s60 = .int .i64 i ∧ s12 = .int .i64 q ∧ s13 = .slice A i C ∧ Hid (quoX x i = q) ∧ Hid (Fr wo wr [⟨3, .slice A i C, ints (lotsX x i)⟩])) (fun _ _ s _ => n - (intOf s).toNat)
      case atStart => exact ⟨0, x, .none, 0, by omega, by omega, rfl, rfl, rfl, Lib.hid rfl, HL0⟩
      case round =>
        clear HL0
        obtain ⟨i, q, A, C, hi, hq, rfl, rfl, rfl, HQ, HL⟩ := hrel
        by_cases hlt2 : i < n
        · have hst := lotsX_step x i
          have hq2 : quoX x (i + 1) = q / (i + 1) := by rw [quoX, HQ.out]
          rw [lotX, HQ.out] at hst
          obtain ⟨r, hr⟩ : ∃ r, q % (i + 1) = r := ⟨_, rfl⟩
          obtain ⟨q2, hq3⟩ : ∃ q2, q / (i + 1) = q2 := ⟨_, rfl⟩
          have f1 : (q : Int) % ((i : Int) + 1) = (r : Int) := by rw [← hr]; simp
          have f2 : (q : Int) / ((i : Int) + 1) = (q2 : Int) := by rw [← hq3]; simp
          have hle : q2 ≤ x := by rw [← hq3]; exact Nat.le_trans (Nat.div_le_self _ _) hq
          rw [hr] at hst
          rw [hq3] at hq2
          have HST := Lib.hid hst; have HQ2 := Lib.hid hq2
          have i0 : ((i : Int) + 1 == 0) = false := beq_eq_false_iff_ne.2 (by omega)
          clear hst hq2 hr hq3
          go_wp2_with (with_reducible refine at_slot 69 ?_; go_must (refine wpList_pushInt rfl _ _ rfl A i C _ (r : Int) _ rfl HL.out rfl ?_ ?_); rotate_left; intro ad' cp' w2 hf2 hlt2)
          · rw [← HST.out] at hf2
            have HL2 := Lib.hid hf2
            clear hf2
            exact ⟨⟨i + 1, q2, ad', cp', by omega, hle, by simp, rfl, rfl, HQ2, HL2⟩, by simp only [intOf]; omega⟩
          · omega
        · obtain rfl : n = i := by omega
          obtain ⟨hcl, hcb, hcs, hcn⟩ := chosen_facts n K x
          go_wp2_with fail
          refine (poolCh (lotsX x n) n K _ _ _ (HL.out.get 0 rfl) (lotsX_len x n) (lotsX_ok x n) (by omega) K1 (by omega)).mono ?_; rintro e w3 ⟨ad, cp, rfl, hcp, hf⟩
          obtain ⟨c, hc⟩ : ∃ c, insS (runK K (lotsX x n) n) (min n K) = c := ⟨_, rfl⟩
          rw [hc] at hcl hcb hcs hcn hf
          rw [HMN.out] at hcl hf hcp
          rw [HMN.out]
          have HC := Lib.hid hcl; have HCB := Lib.hid hcb; have HCS := Lib.hid hcs; have HCN := Lib.hid hcn
          have HF3 := Lib.hid (HL.out.below.call hf)
          clear hc hcl hcb hcs hcn hf hcp
          have z1 : ((m : Int) != (m : Int)) = false := by simp
          have hmin := HMIN.out
          go_wp2_with fail
          clear hmin z1
          go_loop [17, 93] (fun s17 s93 => ∃ (t q : Nat), t ≤ m ∧ s93 = .int .i64 t ∧ s17 = .int .u16 q ∧ q < 65536 ∧ Hid (orL (c.take t) = q)) (fun _ s => m - (intOf s).toNat)
          case atStart => exact ⟨0, 0, by omega, rfl, rfl, by omega, Lib.hid rfl⟩
          case round =>
            obtain ⟨t, q, ht, rfl, rfl, hq16, HQQ⟩ := hrel
            by_cases hlt3 : t < m
            · obtain ⟨b1, o1, rfl, hb1, cx⟩ := (HF3.out.get 0 rfl).int t (by rw [HC.out]; exact hlt3)
              have hvb := HCB.out _ (nth_mem c t (by rw [HC.out]; exact hlt3))
              obtain ⟨u, hu⟩ : ∃ u : Nat, nth c t = (u : Int) := ⟨(nth c t).toNat, by omega⟩
              rw [hu] at hvb cx
              have hun : u < n := by omega
              have hnew := orL_new c t u (by rw [HC.out]; exact hlt3) hu (fun y hy => (HCB.out y hy).1) HCN.out
              have hstep : orL (c.take (t + 1)) = q ||| 2 ^ u := by
                rw [take_nth c t (by rw [HC.out]; exact hlt3), orL_snoc, HQQ.out, hu]; rfl
              rw [HQQ.out] at hnew
              obtain ⟨z, hz⟩ : ∃ z, q / 2 ^ u = z := ⟨_, rfl⟩
              have f1 : (q : Int) / 2 ^ u = (z : Int) := by rw [← hz]; simp
              have hzq : z ≤ q := by rw [← hz]; exact Nat.div_le_self _ _
              rw [hz] at hnew
              have f2 := and16 z (by omega) hnew
              have hsh := shl16X u (by omega)
              have hp : 2 ^ u ≤ 64 := Nat.pow_le_pow_right (n := 2) (by omega) (show u ≤ 6 by omega)
              have hr16 : q ||| 2 ^ u < 65536 := Nat.or_lt_two_pow (n := 16) hq16 (by omega)
              have hor := Go.u16_or_nat q (2 ^ u) hq16 (by omega)
              rw [← hsh] at hor
              obtain ⟨r, hr⟩ : ∃ r, q ||| 2 ^ u = r := ⟨_, rfl⟩
              rw [hr] at hor hr16 hstep
              have HST := Lib.hid hstep
              have d1 : decide ((u : Int) < 0) = false := decide_eq_false (by omega)
              have d2 : decide ((n : Int) ≤ (u : Int)) = false := decide_eq_false (by omega)
              have i1 : (0 : Int) ≤ (t : Int) := by omega
              have i2 : (t : Int) < (m : Int) := by omega
              have i3 : (0 : Int) ≤ (u : Int) := by omega
              clear hu hvb hnew hz hsh hp hr hstep
              go_wp2_with fail
              exact ⟨⟨t + 1, r, by omega, by simp, rfl, hr16, HST⟩, by simp only [intOf]; omega⟩
            · obtain rfl : m = t := by omega
              have hqs : q = sX n K x := by rw [← HQQ.out, List.take_of_length_le (by rw [HC.out]; exact Nat.le_refl _)]; exact HCS.out
              have HM3 := Lib.hid (World.ownsMap.kept HM.out (grown0 HF3.out.bel) (by simp))
              have hlook := OwnM.look HM3.out q hq16
              have hcle := cntX_le n K q x
              have hdm : dmX n K (x + 1) = (dmX n K x).put (kyU q) (.lit (.int .i64 ((cntX n K x q : Int) + 1))) := by rw [hqs]; rfl
              obtain ⟨y, hy⟩ : ∃ y, cntX n K x q = y := ⟨_, rfl⟩
              rw [hy] at hlook hcle hdm
              have HDM := Lib.hid hdm
              clear hqs hdm hy
              have hwf : (Lit.int .i64 ((y : Int) + 1)).wf = true := WalkArith.wf_i64 (by omega)
              have HWF := Lib.hid hwf
              clear hwf
              go_wp2_with (at_mapUpdate; refine wpList_mapUpdate_own _ rfl _ _ _ 68 rfl 70 3 lawU Try.underlying68 _ B x _ rfl HM3.out (by unfold maxLen; omega) _ _ _ rfl rfl (kyU_of q hq16) _ [] (plainElem_int Try.underlying3 HWF.out) ?_; intro w4 hown4 hgrow4)
              have HM4 : Hid (OwnM n K B (x + 1) w4) := Lib.hid (by show w4.ownsMap _ _ _ _ _ _; rw [HDM.out]; exact hown4)
              have HF4 : Hid (Fr w w4 []) := Lib.hid ⟨Below.grown (row := some B) (HF.out.keep HF3.out.bel).bel hgrow4 (HF.out.keep HF3.out.bel).bel.size (fun k hk => by cases hk; exact HBW.out), Oss.nil _ _⟩
              clear hlook hown4 hgrow4
              exact ⟨⟨x + 1, by omega, by simp, HM4, HF4⟩, by simp only [intOf]; omega⟩
    · obtain rfl : F = x := by omega
      obtain ⟨hev, hzw⟩ := even_law n K n7 K1 K7
      rw [HFF.out, HWW.out] at hev hzw
      have HEV := Lib.hid hev
      obtain ⟨Z, hZ⟩ : ∃ Z, (if n < K then 1 else chN n K) = Z := ⟨_, rfl⟩
      rw [hZ] at hzw
      have hzw2 : (Z : Int) * (W : Int) = (F : Int) := by rw [← hzw]; simp
      have HZW := Lib.hid hzw2; have HZ := Lib.hid hZ
      clear hev hzw hzw2 hZ
      go_upto_if 123 with (fail)
      go_cut [9] from 124 (fun s9 wc => s9 = .int .i64 (Z : Nat) ∧ Hid (OwnM n K B F wc) ∧ Hid (Fr w wc []))
      case first =>
        by_cases hnk : n < K
        · have e1 : Hid (Z = 1) := Lib.hid (by rw [← HZ.out, if_pos hnk])
          go_wp2_with fail
          go_meet
          exact ⟨by rw [e1.out]; rfl, HM, HF⟩
        · have e1 : Hid (chN (max n K) K = Z) := Lib.hid (by rw [← HZ.out, if_neg hnk, show max n K = n by omega])
          go_wp2_with fail
          go_meet
          exact ⟨by rw [e1.out], HM, HF⟩
      case rest =>
      obtain ⟨rfl, HM2, HF2⟩ := hcut
      have hsh := shl16X n (by omega)
      have hp : 2 ^ n ≤ 64 := Nat.pow_le_pow_right (n := 2) (by omega) (show n ≤ 6 by omega)
      have hsum := sumN_cnt n K F
      have hev := HEV.out
      obtain ⟨P, hP⟩ : ∃ P, 2 ^ n = P := ⟨_, rfl⟩
      rw [hP] at hsh hp hsum hev
      have HSUM := Lib.hid hsum; have HEV2 := Lib.hid hev
      clear hP hsum hev
      go_wp2_with fail
      go_loop [20, 126] (fun s20 s126 => ∃ (s T : Nat), s ≤ P ∧ s126 = .int .u16 s ∧ s20 = .int .i64 T ∧ T ≤ F ∧ Hid (sumN (fun s => cntX n K F s) s = T)) (fun _ i => P - (intOf i).toNat)
      case atStart => exact ⟨0, 0, by omega, rfl, rfl, by omega, Lib.hid rfl⟩
      case round =>
        obtain ⟨s, T, hs, rfl, rfl, hT, HT⟩ := hrel
        by_cases hlt : s < P
        · have hlook := OwnM.look HM2.out s (by omega)
          have hy := HEV2.out s hlt
          have hst : sumN (fun s => cntX n K F s) (s + 1) = T + cntX n K F s := by rw [sumN, HT.out]
          have hle := sumN_le (fun s => cntX n K F s) (s + 1) (P - (s + 1))
          rw [show s + 1 + (P - (s + 1)) = P by omega, HSUM.out, hst] at hle
          obtain ⟨y, hyy⟩ : ∃ y, cntX n K F s = y := ⟨_, rfl⟩
          rw [hyy] at hlook hy hst hle
          have HST := Lib.hid hst
          have hinc := inc16X s (by omega)
          clear hyy hst
          by_cases y0 : y = 0
          · subst y0
            clear hy
            go_wp2_with fail
            exact ⟨⟨s + 1, T + 0, by omega, by simp, by simp, by omega, HST⟩, by simp only [intOf]; omega⟩
          · obtain rfl : y = W := by omega
            have g1 : decide ((0 : Int) < (y : Int)) = true := decide_eq_true (by omega)
            have g2 : ((y : Int) != (y : Int)) = false := by simp
            clear hy y0
            go_wp2_with fail
            all_goals exact ⟨⟨s + 1, T + y, by omega, by simp, by simp, by omega, HST⟩, by simp only [intOf]; omega⟩
        · obtain rfl : P = s := by omega
          obtain rfl : F = T := by rw [← HT.out]; exact HSUM.out.symm
          have g3 : ((F : Int) == (F : Int)) = true := by simp
          have hzw := HZW.out
          go_wp2_with fail
          go_ret
          exact ⟨by simp, HF2.out.bel⟩
end Go.Proofs.Ytgblmbhbbjgdiaa
