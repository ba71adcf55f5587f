/- The walk of BottomJoins. -/
import Derived.Test.YtfompfaepabpgaaBotN
import Derived.Test.YtfompfaepabpgaaStrsF
namespace Go.Proofs.Ytfompfaepabpgaa
open Go.RowKit

set_option maxRecDepth 100000 in
set_option maxHeartbeats 8000000 in
theorem bottomJoins_no (hsort : SortsNames) (most : Int) (x y z : List ByteArray) (n1 n2 n3 : Nat) (a b c : Option Addr) (ca cb cc : Nat) (w : World) (hx : IsNames w a n1 ca x) (hy : IsNames w b n2 cb y) (hz : IsNames w c n3 cc z)
    (s1 : n1 ≤ 1048576) (s2 : n2 ≤ 1048576) (s3 : n3 ≤ 1048576) (hbad : OfBad most x ∨ OfBad most y ∨ OfBad most z) :
    Calls Try.prog 8 #[.int .i64 most, .slice a n1 ca, .slice b n2 cb, .slice c n3 cc] w (RetB true w) := by
  have HB := Lib.hid (bottomsOk hsort w)
  have HX := Lib.hid (fun w' (b : Below w.heap.size w w') => botOfAny hsort most x n1 a ca w' (hx.hsa.keep b) hx.hlen hx.hnil (by omega))
  have HY := Lib.hid (fun w' (b' : Below w.heap.size w w') => botOfAny hsort most y n2 b cb w' (hy.hsa.keep b') hy.hlen hy.hnil (by omega))
  have HZ := Lib.hid (fun w' (b : Below w.heap.size w w') => botOfAny hsort most z n3 c cc w' (hz.hsa.keep b) hz.hlen hz.hnil (by omega))
  have HBad := Lib.hid hbad
  clear hx hy hz hsort hbad s1 s2 s3
  go_enter Try.func8, Try.ntmps8
  go_wp2_with fail
  refine HB.out.mono ?_; rintro e w1 ⟨rfl, hf1⟩
  have HF1 := Lib.hid hf1
  clear HB hf1
  go_wp2_with fail
  refine (HX.out _ HF1.out.bel).mono ?_; rintro e v1 ⟨e1, k1, ad1, m1, cp1, rfl, hl1, hi1, hm1, hb1⟩
  obtain ⟨P1, hP1⟩ : ∃ P, v1.heap.size = P := ⟨_, rfl⟩
  have HF2 := Lib.hid ((HF1.out.keep hb1).alloc (.cells #[.int .i64 k1, .slice ad1 m1 cp1] 48))
  have HI1 := Lib.hid hi1; have HL1 := Lib.hid hl1
  have HC1 : Hid (∀ w', Below (v1.alloc (.cells #[.int .i64 k1, .slice ad1 m1 cp1] 48)).heap.size (v1.alloc (.cells #[.int .i64 k1, .slice ad1 m1 cp1] 48)) w' → w'.cell? ⟨P1, 0, none⟩ = some (.int .i64 k1) ∧ w'.cell? ⟨P1, 1, none⟩ = some (.slice ad1 m1 cp1)) := Lib.hid fun w' b => by
    have h1 := (Fr.start v1).new 48 #[.int .i64 k1, .slice ad1 m1 cp1] [.int .i64 k1, .slice ad1 m1 cp1] rfl 2 rfl (by omega)
    rw [hP1] at h1
    exact (smCells ((h1.keep b).get 0 rfl)).2
  have HB1 := Lib.hid hb1
  clear hb1 hi1 hl1
  go_wp2_with fail
  refine (HY.out _ HF2.out.bel).mono ?_; rintro e v2 ⟨e2, k2, ad2, m2, cp2, rfl, hl2, hi2, hm2, hb2⟩
  obtain ⟨P2, hP2⟩ : ∃ P, v2.heap.size = P := ⟨_, rfl⟩
  have HF3 := Lib.hid ((HF2.out.keep hb2).alloc (.cells #[.int .i64 k2, .slice ad2 m2 cp2] 48))
  have HI2 := Lib.hid hi2; have HL2 := Lib.hid hl2
  have HC2 : Hid (∀ w', Below (v2.alloc (.cells #[.int .i64 k2, .slice ad2 m2 cp2] 48)).heap.size (v2.alloc (.cells #[.int .i64 k2, .slice ad2 m2 cp2] 48)) w' → w'.cell? ⟨P2, 0, none⟩ = some (.int .i64 k2) ∧ w'.cell? ⟨P2, 1, none⟩ = some (.slice ad2 m2 cp2)) := Lib.hid fun w' b => by
    have h1 := (Fr.start v2).new 48 #[.int .i64 k2, .slice ad2 m2 cp2] [.int .i64 k2, .slice ad2 m2 cp2] rfl 2 rfl (by omega)
    rw [hP2] at h1
    exact (smCells ((h1.keep b).get 0 rfl)).2
  have HB2 := Lib.hid hb2
  clear hb2 hi2 hl2
  go_wp2_with fail
  refine (HZ.out _ HF3.out.bel).mono ?_; rintro e v3 ⟨e3, k3, ad3, m3, cp3, rfl, hl3, hi3, hm3, hb3⟩
  obtain ⟨P3, hP3⟩ : ∃ P, v3.heap.size = P := ⟨_, rfl⟩
  have HF4 := Lib.hid ((HF3.out.keep hb3).alloc (.cells #[.int .i64 k3, .slice ad3 m3 cp3] 48))
  have HI3 := Lib.hid hi3; have HL3 := Lib.hid hl3
  have HC3 : Hid (∀ w', Below (v3.alloc (.cells #[.int .i64 k3, .slice ad3 m3 cp3] 48)).heap.size (v3.alloc (.cells #[.int .i64 k3, .slice ad3 m3 cp3] 48)) w' → w'.cell? ⟨P3, 0, none⟩ = some (.int .i64 k3) ∧ w'.cell? ⟨P3, 1, none⟩ = some (.slice ad3 m3 cp3)) := Lib.hid fun w' b => by
    have h1 := (Fr.start v3).new 48 #[.int .i64 k3, .slice ad3 m3 cp3] [.int .i64 k3, .slice ad3 m3 cp3] rfl 2 rfl (by omega)
    rw [hP3] at h1
    exact (smCells ((h1.keep b).get 0 rfl)).2
  have HB3 := Lib.hid hb3
  clear hb3 hi3 hl3
  go_wp2_with fail
  refine (good_list [e1, e2, e3] (v3.alloc (.cells #[.int .i64 k3, .slice ad3 m3 cp3] 48)) (P3 + 1) 28 (by simp [hP3]) #[.int .i64 e1, .int .i64 e2, .int .i64 e3] rfl 3 rfl (by omega)).mono ?_; rintro e w' ⟨rfl, rfl⟩
  have HF5 := Lib.hid (HF4.out.alloc (.cells #[.int .i64 e1, .int .i64 e2, .int .i64 e3] 28))
  have hg : ([e1, e2, e3].all fun x => x == 0) = false := by
    rw [List.all_eq_false]
    rcases HBad.out with h | h | h
    · exact ⟨e1, by simp, by simpa using HI1.out.2 h⟩
    · exact ⟨e2, by simp, by simpa using HI2.out.2 h⟩
    · exact ⟨e3, by simp, by simpa using HI3.out.2 h⟩
  rw [hg]
  have b1 : Below (v1.alloc (.cells #[.int .i64 k1, .slice ad1 m1 cp1] 48)).heap.size (v1.alloc (.cells #[.int .i64 k1, .slice ad1 m1 cp1] 48)) (((v3.alloc (.cells #[.int .i64 k3, .slice ad3 m3 cp3] 48)).alloc (.cells #[.int .i64 e1, .int .i64 e2, .int .i64 e3] 28))) :=
    (((((Fr.start _).keep HB2.out).alloc (.cells #[.int .i64 k2, .slice ad2 m2 cp2] 48)).keep HB3.out).alloc (.cells #[.int .i64 k3, .slice ad3 m3 cp3] 48)).alloc (.cells #[.int .i64 e1, .int .i64 e2, .int .i64 e3] 28) |>.bel
  obtain ⟨c0, c1⟩ := HC1.out _ b1
  clear b1 HC1 HC2 HC3 HBad hg HI1 HI2 HI3 HB1 HB2 HB3 HF1 HF2 HF3 HF4
  by_cases h0 : e1 = 0
  · subst h0
    go_wp2_with fail
    go_ret
    exact ⟨rfl, HF5.out⟩
  · obtain rfl := HL1.out h0
    have g1 : (e1 == (0 : Int)) = false := by simpa using h0
    go_wp2_with fail
    go_ret
    exact ⟨rfl, HF5.out⟩
set_option maxRecDepth 100000 in
set_option maxHeartbeats 16000000 in
theorem bottomJoins_yes (hsort : SortsNames) (k : Nat) (x y z : List ByteArray) (n1 n2 n3 : Nat) (a b c : Option Addr) (ca cb cc : Nat) (w : World) (hx : IsNames w a n1 ca x) (hy : IsNames w b n2 cb y) (hz : IsNames w c n3 cc z)
    (s1 : n1 ≤ 1048576) (s2 : n2 ≤ 1048576) (s3 : n3 ≤ 1048576) (k1 : 1 ≤ k) (k2 : k ≤ 30) (zx : ∀ u ∈ x, u.size ≤ 12) (zy : ∀ u ∈ y, u.size ≤ 12) (zz : ∀ u ∈ z, u.size ≤ 12) :
    Calls Try.prog 8 #[.int .i64 k, .slice a n1 ca, .slice b n2 cb, .slice c n3 cc] w (RetB true w) := by
  have zall : ∀ u ∈ x ++ y ++ z, u.size ≤ 12 := fun u hu => by
    rw [List.mem_append, List.mem_append] at hu
    rcases hu with (h | h) | h
    · exact zx u h
    · exact zy u h
    · exact zz u h
  have oA := sk_ok k x k1 k2 zx
  have oB := sk_ok k y k1 k2 zy
  have oC := sk_ok k z k1 k2 zz
  have oAB := sk_ok k (x ++ y) k1 k2 (fun u hu => zall u (List.mem_append_left _ hu))
  have oBC := sk_ok k (y ++ z) k1 k2 (fun u hu => zall u (by rw [List.append_assoc]; exact List.mem_append_right _ hu))
  have eab := sk_join k x y
  have eba := (sk_join k y x).trans (sk_comm k y x)
  have ebc := sk_join k y z
  have el : skS k (skS k (x ++ y) ++ skS k z) = skS k (x ++ y ++ z) := sk_join k (x ++ y) z
  have er : skS k (skS k x ++ skS k (y ++ z)) = skS k (x ++ y ++ z) := by rw [sk_join, List.append_assoc]
  have eaa := sk_self k x
  obtain ⟨A, hA⟩ : ∃ r, skS k x = r := ⟨_, rfl⟩
  obtain ⟨B, hB⟩ : ∃ r, skS k y = r := ⟨_, rfl⟩
  obtain ⟨C, hC⟩ : ∃ r, skS k z = r := ⟨_, rfl⟩
  obtain ⟨AB, hAB⟩ : ∃ r, skS k (x ++ y) = r := ⟨_, rfl⟩
  obtain ⟨BC, hBC⟩ : ∃ r, skS k (y ++ z) = r := ⟨_, rfl⟩
  obtain ⟨ABC, hABC⟩ : ∃ r, skS k (x ++ y ++ z) = r := ⟨_, rfl⟩
  rw [hA] at oA eab eba er eaa
  rw [hB] at oB eab eba ebc
  rw [hC] at oC ebc el
  rw [hAB] at oAB eab eba el
  rw [hBC] at oBC ebc er
  rw [hABC] at el er
  obtain ⟨qA, hqA⟩ : ∃ q, A.length = q := ⟨_, rfl⟩
  have HQA := Lib.hid hqA; have HEA := Lib.hid hA
  obtain ⟨qB, hqB⟩ : ∃ q, B.length = q := ⟨_, rfl⟩
  have HQB := Lib.hid hqB; have HEB := Lib.hid hB
  obtain ⟨qC, hqC⟩ : ∃ q, C.length = q := ⟨_, rfl⟩
  have HQC := Lib.hid hqC; have HEC := Lib.hid hC
  obtain ⟨qAB, hqAB⟩ : ∃ q, AB.length = q := ⟨_, rfl⟩
  have HQAB := Lib.hid hqAB; have HEAB := Lib.hid hAB
  obtain ⟨qBC, hqBC⟩ : ∃ q, BC.length = q := ⟨_, rfl⟩
  have HQBC := Lib.hid hqBC; have HEBC := Lib.hid hBC
  obtain ⟨qABC, hqABC⟩ : ∃ q, ABC.length = q := ⟨_, rfl⟩
  have HQABC := Lib.hid hqABC; have HEABC := Lib.hid hABC
  have hq30 : qABC ≤ 30 := by rw [← hqABC, ← hABC]; exact smOk_len (sk_ok k _ k1 k2 zall)
  have hA30 : qA ≤ 30 := by rw [← hqA]; exact smOk_len oA
  have hAB30 : qAB ≤ 30 := by rw [← hqAB]; exact smOk_len oAB
  have HoA := Lib.hid oA
  have HoB := Lib.hid oB
  have HoC := Lib.hid oC
  have HoAB := Lib.hid oAB
  have HoBC := Lib.hid oBC
  have Heab := Lib.hid eab
  have Heba := Lib.hid eba
  have Hebc := Lib.hid ebc
  have Hel := Lib.hid el
  have Her := Lib.hid er
  have Heaa := Lib.hid eaa
  have Hzall := Lib.hid zall
  have Hzx := Lib.hid zx
  have Hzy := Lib.hid zy
  have Hzz := Lib.hid zz
  have HB := Lib.hid (bottomsOk hsort w)
  have HX := Lib.hid hx; have HY := Lib.hid hy; have HZ := Lib.hid hz; have HSort := Lib.hid hsort
  clear hx hy hz hsort hA hB hC hAB hBC hABC hqA hqB hqC hqAB hqBC hqABC oA oB oC oAB oBC eab eba ebc el er eaa zall zx zy zz
  go_enter Try.func8, Try.ntmps8
  go_wp2_with fail
  refine HB.out.mono ?_; rintro e w1 ⟨rfl, hf1⟩
  have HF := Lib.hid hf1
  have HS := Lib.hid (SmsIn.nil k w1)
  clear HB hf1
  go_wp2_with fail
  refine (botOfOk HSort.out k x A qA n1 a ca _ (HX.out.hsa.keep HF.out.bel) HX.out.hlen HX.out.hnil (by omega) k1 k2 Hzx.out HEA.out HQA.out).mono ?_; rintro e v1 ⟨ad1, cp1, rfl, hf⟩
  obtain ⟨P1, hP1⟩ : ∃ P, v1.heap.size = P := ⟨_, rfl⟩
  have hs := HS.out.new hf hP1 HQA.out
  have hF := (HF.out.keep hf.bel).alloc (.cells #[.int .i64 k, .slice ad1 qA cp1] 48)
  clear HS HF hf
  have HS := Lib.hid hs; have HF := Lib.hid hF
  clear hs hF
  go_wp2_with fail
  refine (botOfOk HSort.out k y B qB n2 b cb _ (HY.out.hsa.keep HF.out.bel) HY.out.hlen HY.out.hnil (by omega) k1 k2 Hzy.out HEB.out HQB.out).mono ?_; rintro e v2 ⟨ad2, cp2, rfl, hf⟩
  obtain ⟨P2, hP2⟩ : ∃ P, v2.heap.size = P := ⟨_, rfl⟩
  have hs := HS.out.new hf hP2 HQB.out
  have hF := (HF.out.keep hf.bel).alloc (.cells #[.int .i64 k, .slice ad2 qB cp2] 48)
  clear HS HF hf
  have HS := Lib.hid hs; have HF := Lib.hid hF
  clear hs hF
  go_wp2_with fail
  refine (botOfOk HSort.out k z C qC n3 c cc _ (HZ.out.hsa.keep HF.out.bel) HZ.out.hlen HZ.out.hnil (by omega) k1 k2 Hzz.out HEC.out HQC.out).mono ?_; rintro e v3 ⟨ad3, cp3, rfl, hf⟩
  obtain ⟨P3, hP3⟩ : ∃ P, v3.heap.size = P := ⟨_, rfl⟩
  have hs := HS.out.new hf hP3 HQC.out
  have hF := (HF.out.keep hf.bel).alloc (.cells #[.int .i64 k, .slice ad3 qC cp3] 48)
  clear HS HF hf
  have HS := Lib.hid hs; have HF := Lib.hid hF
  clear hs hF
  go_wp2_with fail
  refine (good_list [0, 0, 0] (v3.alloc (.cells #[.int .i64 k, .slice ad3 qC cp3] 48)) (P3 + 1) 28 (by simp [hP3]) #[.int .i64 0, .int .i64 0, .int .i64 0] rfl 3 rfl (by omega)).mono ?_; rintro e w' ⟨rfl, rfl⟩
  have hs := HS.out.keep ((Fr.start _).alloc (.cells #[.int .i64 0, .int .i64 0, .int .i64 0] 28)).bel
  have hF := HF.out.alloc (.cells #[.int .i64 0, .int .i64 0, .int .i64 0] 28)
  clear HS HF
  have HS := Lib.hid hs; have HF := Lib.hid hF
  clear hs hF
  rw [show (([0, 0, 0] : List Int).all fun x => x == 0) = true from rfl]
  obtain ⟨-, c1, d1, -, -⟩ := HS.out.get (List.mem_cons_of_mem _ (List.mem_cons_of_mem _ List.mem_cons_self))
  rw [HQA.out] at d1
  obtain ⟨-, c2, d2, -, -⟩ := HS.out.get (List.mem_cons_of_mem _ List.mem_cons_self)
  rw [HQB.out] at d2
  go_wp2_with fail
  clear c1 d1 c2 d2
  obtain ⟨-, -, -, sa, na⟩ := HS.out.get (List.mem_cons_of_mem _ (List.mem_cons_of_mem _ List.mem_cons_self))
  obtain ⟨-, -, -, sb, nb⟩ := HS.out.get (List.mem_cons_of_mem _ List.mem_cons_self)
  rw [HQA.out] at na
  rw [HQB.out] at nb
  refine (botJoinOk HSort.out k A B AB qAB qA qB ad1 ad2 cp1 cp2 _ sa sb HQA.out HQB.out na nb HoA.out HoB.out Heab.out HQAB.out).mono ?_; rintro e v4 ⟨ad4, cp4, rfl, hf⟩
  clear sa sb na nb
  obtain ⟨P4, hP4⟩ : ∃ P, v4.heap.size = P := ⟨_, rfl⟩
  have hs := HS.out.new hf hP4 HQAB.out
  have hF := (HF.out.keep hf.bel).alloc (.cells #[.int .i64 k, .slice ad4 qAB cp4] 48)
  clear HS HF hf
  have HS := Lib.hid hs; have HF := Lib.hid hF
  clear hs hF
  obtain ⟨-, c2, d2, -, -⟩ := HS.out.get (List.mem_cons_of_mem _ (List.mem_cons_of_mem _ List.mem_cons_self))
  rw [HQB.out] at d2
  obtain ⟨-, c1, d1, -, -⟩ := HS.out.get (List.mem_cons_of_mem _ (List.mem_cons_of_mem _ (List.mem_cons_of_mem _ List.mem_cons_self)))
  rw [HQA.out] at d1
  go_wp2_with fail
  clear c2 d2 c1 d1
  obtain ⟨-, -, -, sa, na⟩ := HS.out.get (List.mem_cons_of_mem _ (List.mem_cons_of_mem _ List.mem_cons_self))
  obtain ⟨-, -, -, sb, nb⟩ := HS.out.get (List.mem_cons_of_mem _ (List.mem_cons_of_mem _ (List.mem_cons_of_mem _ List.mem_cons_self)))
  rw [HQB.out] at na
  rw [HQA.out] at nb
  refine (botJoinOk HSort.out k B A AB qAB qB qA ad2 ad1 cp2 cp1 _ sa sb HQB.out HQA.out na nb HoB.out HoA.out Heba.out HQAB.out).mono ?_; rintro e v5 ⟨ad5, cp5, rfl, hf⟩
  clear sa sb na nb
  obtain ⟨P5, hP5⟩ : ∃ P, v5.heap.size = P := ⟨_, rfl⟩
  have hs := HS.out.new hf hP5 HQAB.out
  have hF := (HF.out.keep hf.bel).alloc (.cells #[.int .i64 k, .slice ad5 qAB cp5] 48)
  clear HS HF hf
  have HS := Lib.hid hs; have HF := Lib.hid hF
  clear hs hF
  obtain ⟨-, c2, d2, -, -⟩ := HS.out.get (List.mem_cons_of_mem _ (List.mem_cons_of_mem _ (List.mem_cons_of_mem _ List.mem_cons_self)))
  rw [HQB.out] at d2
  obtain ⟨-, c3, d3, -, -⟩ := HS.out.get (List.mem_cons_of_mem _ (List.mem_cons_of_mem _ List.mem_cons_self))
  rw [HQC.out] at d3
  go_wp2_with fail
  clear c2 d2 c3 d3
  obtain ⟨-, -, -, sa, na⟩ := HS.out.get (List.mem_cons_of_mem _ (List.mem_cons_of_mem _ (List.mem_cons_of_mem _ List.mem_cons_self)))
  obtain ⟨-, -, -, sb, nb⟩ := HS.out.get (List.mem_cons_of_mem _ (List.mem_cons_of_mem _ List.mem_cons_self))
  rw [HQB.out] at na
  rw [HQC.out] at nb
  refine (botJoinOk HSort.out k B C BC qBC qB qC ad2 ad3 cp2 cp3 _ sa sb HQB.out HQC.out na nb HoB.out HoC.out Hebc.out HQBC.out).mono ?_; rintro e v6 ⟨ad6, cp6, rfl, hf⟩
  clear sa sb na nb
  obtain ⟨P6, hP6⟩ : ∃ P, v6.heap.size = P := ⟨_, rfl⟩
  have hs := HS.out.new hf hP6 HQBC.out
  have hF := (HF.out.keep hf.bel).alloc (.cells #[.int .i64 k, .slice ad6 qBC cp6] 48)
  clear HS HF hf
  have HS := Lib.hid hs; have HF := Lib.hid hF
  clear hs hF
  obtain ⟨-, c4, d4, -, -⟩ := HS.out.get (List.mem_cons_of_mem _ (List.mem_cons_of_mem _ List.mem_cons_self))
  rw [HQAB.out] at d4
  obtain ⟨-, c3, d3, -, -⟩ := HS.out.get (List.mem_cons_of_mem _ (List.mem_cons_of_mem _ (List.mem_cons_of_mem _ List.mem_cons_self)))
  rw [HQC.out] at d3
  go_wp2_with fail
  clear c4 d4 c3 d3
  obtain ⟨-, -, -, sa, na⟩ := HS.out.get (List.mem_cons_of_mem _ (List.mem_cons_of_mem _ List.mem_cons_self))
  obtain ⟨-, -, -, sb, nb⟩ := HS.out.get (List.mem_cons_of_mem _ (List.mem_cons_of_mem _ (List.mem_cons_of_mem _ List.mem_cons_self)))
  rw [HQAB.out] at na
  rw [HQC.out] at nb
  refine (botJoinOk HSort.out k AB C ABC qABC qAB qC ad4 ad3 cp4 cp3 _ sa sb HQAB.out HQC.out na nb HoAB.out HoC.out Hel.out HQABC.out).mono ?_; rintro e v7 ⟨ad7, cp7, rfl, hf⟩
  clear sa sb na nb
  obtain ⟨P7, hP7⟩ : ∃ P, v7.heap.size = P := ⟨_, rfl⟩
  have hs := HS.out.new hf hP7 HQABC.out
  have hF := (HF.out.keep hf.bel).alloc (.cells #[.int .i64 k, .slice ad7 qABC cp7] 48)
  clear HS HF hf
  have HS := Lib.hid hs; have HF := Lib.hid hF
  clear hs hF
  obtain ⟨-, c1, d1, -, -⟩ := HS.out.get (List.mem_cons_of_mem _ (List.mem_cons_of_mem _ (List.mem_cons_of_mem _ (List.mem_cons_of_mem _ (List.mem_cons_of_mem _ (List.mem_cons_of_mem _ List.mem_cons_self))))))
  rw [HQA.out] at d1
  obtain ⟨-, c6, d6, -, -⟩ := HS.out.get (List.mem_cons_of_mem _ List.mem_cons_self)
  rw [HQBC.out] at d6
  go_wp2_with fail
  clear c1 d1 c6 d6
  obtain ⟨-, -, -, sa, na⟩ := HS.out.get (List.mem_cons_of_mem _ (List.mem_cons_of_mem _ (List.mem_cons_of_mem _ (List.mem_cons_of_mem _ (List.mem_cons_of_mem _ (List.mem_cons_of_mem _ List.mem_cons_self))))))
  obtain ⟨-, -, -, sb, nb⟩ := HS.out.get (List.mem_cons_of_mem _ List.mem_cons_self)
  rw [HQA.out] at na
  rw [HQBC.out] at nb
  refine (botJoinOk HSort.out k A BC ABC qABC qA qBC ad1 ad6 cp1 cp6 _ sa sb HQA.out HQBC.out na nb HoA.out HoBC.out Her.out HQABC.out).mono ?_; rintro e v8 ⟨ad8, cp8, rfl, hf⟩
  clear sa sb na nb
  obtain ⟨P8, hP8⟩ : ∃ P, v8.heap.size = P := ⟨_, rfl⟩
  have hs := HS.out.new hf hP8 HQABC.out
  have hF := (HF.out.keep hf.bel).alloc (.cells #[.int .i64 k, .slice ad8 qABC cp8] 48)
  clear HS HF hf
  have HS := Lib.hid hs; have HF := Lib.hid hF
  clear hs hF
  go_wp2_with fail
  have h1 := HF.out.new 42 #[.slice a n1 ca, .slice b n2 cb, .slice c n3 cc] [.slice a n1 ca, .slice b n2 cb, .slice c n3 cc] rfl 3 rfl (by omega)
  have eQ : (v8.alloc (.cells #[.int .i64 k, .slice ad8 qABC cp8] 48)).heap.size = P8 + 1 := by simp [hP8]
  rw [eQ] at h1
  obtain ⟨hg, g0, g1, g2⟩ := rowCells3 (h1.get 0 rfl)
  have hS2 := HS.out.keep ((Fr.start _).alloc (.cells #[.slice a n1 ca, .slice b n2 cb, .slice c n3 cc] 42)).bel
  have HF1 := Lib.hid h1.below
  refine (catS3 (strV x) (strV y) (strV z) n1 n2 n3 a b c ca cb cc (P8 + 1) _ (HX.out.hsa.keep h1.bel) (HY.out.hsa.keep h1.bel) (HZ.out.hsa.keep h1.bel) (by rw [strV_len]; exact HX.out.hlen) (by rw [strV_len]; exact HY.out.hlen) (by rw [strV_len]; exact HZ.out.hlen)
    (strV_one x) (strV_one y) (strV_one z) (fun e => (HX.out.hnil e).symm) (fun e => (HY.out.hnil e).symm) (fun e => (HZ.out.hnil e).symm) (by omega) hg g0 g1 g2).mono ?_; rintro e u9 ⟨ad0, cp0, rfl, hf⟩
  rw [show strV x ++ strV y ++ strV z = strV (x ++ y ++ z) by unfold strV; rw [List.map_append, List.map_append]] at hf
  have hs := hS2.keep hf.bel
  have hF := HF1.out.keep hf.bel
  have HA0 := Lib.hid (hf.get 0 rfl); have HN0 : Hid (ad0 = none → n1 + n2 + n3 = 0 ∧ cp0 = 0) := Lib.hid hf.none
  clear HS HF hf hS2 g0 g1 g2 h1 HF1 hg
  have HS := Lib.hid hs; have HF := Lib.hid hF
  clear hs hF
  go_wp2_with fail
  refine (botOfOk HSort.out k (x ++ y ++ z) ABC qABC (n1 + n2 + n3) ad0 cp0 _ HA0.out (by rw [List.length_append, List.length_append, HX.out.hlen, HY.out.hlen, HZ.out.hlen]) HN0.out (by omega) k1 k2 Hzall.out HEABC.out HQABC.out).mono ?_; rintro e v9 ⟨ad9, cp9, rfl, hf⟩
  obtain ⟨P9, hP9⟩ : ∃ P, v9.heap.size = P := ⟨_, rfl⟩
  have hs := HS.out.new hf hP9 HQABC.out
  have hF := (HF.out.keep hf.bel).alloc (.cells #[.int .i64 k, .slice ad9 qABC cp9] 48)
  clear HS HF hf
  have HS := Lib.hid hs; have HF := Lib.hid hF
  clear hs hF
  obtain ⟨-, c1, d1, -, -⟩ := HS.out.get (List.mem_cons_of_mem _ (List.mem_cons_of_mem _ (List.mem_cons_of_mem _ (List.mem_cons_of_mem _ (List.mem_cons_of_mem _ (List.mem_cons_of_mem _ (List.mem_cons_of_mem _ (List.mem_cons_of_mem _ List.mem_cons_self))))))))
  rw [HQA.out] at d1
  go_wp2_with fail
  clear c1 d1
  obtain ⟨-, -, -, sa, na⟩ := HS.out.get (List.mem_cons_of_mem _ (List.mem_cons_of_mem _ (List.mem_cons_of_mem _ (List.mem_cons_of_mem _ (List.mem_cons_of_mem _ (List.mem_cons_of_mem _ (List.mem_cons_of_mem _ (List.mem_cons_of_mem _ List.mem_cons_self))))))))
  obtain ⟨-, -, -, sb, nb⟩ := HS.out.get (List.mem_cons_of_mem _ (List.mem_cons_of_mem _ (List.mem_cons_of_mem _ (List.mem_cons_of_mem _ (List.mem_cons_of_mem _ (List.mem_cons_of_mem _ (List.mem_cons_of_mem _ (List.mem_cons_of_mem _ List.mem_cons_self))))))))
  rw [HQA.out] at na
  rw [HQA.out] at nb
  refine (botJoinOk HSort.out k A A A qA qA qA ad1 ad1 cp1 cp1 _ sa sb HQA.out HQA.out na nb HoA.out HoA.out Heaa.out HQA.out).mono ?_; rintro e v10 ⟨ad10, cp10, rfl, hf⟩
  clear sa sb na nb
  obtain ⟨P10, hP10⟩ : ∃ P, v10.heap.size = P := ⟨_, rfl⟩
  have hs := HS.out.new hf hP10 HQA.out
  have hF := (HF.out.keep hf.bel).alloc (.cells #[.int .i64 k, .slice ad10 qA cp10] 48)
  clear HS HF hf
  have HS := Lib.hid hs; have HF := Lib.hid hF
  clear hs hF
  go_wp2_with fail
  refine (good_list [0, 0, 0, 0, 0, 0, 0] (v10.alloc (.cells #[.int .i64 k, .slice ad10 qA cp10] 48)) (P10 + 1) 28 (by simp [hP10]) #[.int .i64 0, .int .i64 0, .int .i64 0, .int .i64 0, .int .i64 0, .int .i64 0, .int .i64 0] rfl 7 rfl (by omega)).mono ?_; rintro e w' ⟨rfl, rfl⟩
  have hs := HS.out.keep ((Fr.start _).alloc (.cells #[.int .i64 0, .int .i64 0, .int .i64 0, .int .i64 0, .int .i64 0, .int .i64 0, .int .i64 0] 28)).bel
  have hF := HF.out.alloc (.cells #[.int .i64 0, .int .i64 0, .int .i64 0, .int .i64 0, .int .i64 0, .int .i64 0, .int .i64 0] 28)
  clear HS HF
  have HS := Lib.hid hs; have HF := Lib.hid hF
  clear hs hF
  rw [show (([0, 0, 0, 0, 0, 0, 0] : List Int).all fun x => x == 0) = true from rfl]
  obtain ⟨-, c4, d4, -, -⟩ := HS.out.get (List.mem_cons_of_mem _ (List.mem_cons_of_mem _ (List.mem_cons_of_mem _ (List.mem_cons_of_mem _ (List.mem_cons_of_mem _ (List.mem_cons_of_mem _ List.mem_cons_self))))))
  rw [HQAB.out] at d4
  obtain ⟨-, c5, d5, -, -⟩ := HS.out.get (List.mem_cons_of_mem _ (List.mem_cons_of_mem _ (List.mem_cons_of_mem _ (List.mem_cons_of_mem _ (List.mem_cons_of_mem _ List.mem_cons_self)))))
  rw [HQAB.out] at d5
  go_wp2_with fail
  clear c4 d4 c5 d5
  obtain ⟨-, -, -, sa, -⟩ := HS.out.get (List.mem_cons_of_mem _ (List.mem_cons_of_mem _ (List.mem_cons_of_mem _ (List.mem_cons_of_mem _ (List.mem_cons_of_mem _ (List.mem_cons_of_mem _ List.mem_cons_self))))))
  obtain ⟨-, -, -, sb, -⟩ := HS.out.get (List.mem_cons_of_mem _ (List.mem_cons_of_mem _ (List.mem_cons_of_mem _ (List.mem_cons_of_mem _ (List.mem_cons_of_mem _ List.mem_cons_self)))))
  refine (sameSm k AB qAB ad4 ad5 cp4 cp5 _ sa sb HQAB.out (by omega)).mono ?_; rintro e u145 ⟨rfl, hf⟩
  have hs := HS.out.keep hf.bel
  have hF := HF.out.keep hf.bel
  clear HS HF sa sb hf
  have HS := Lib.hid hs; have HF := Lib.hid hF
  clear hs hF
  obtain ⟨-, c7, d7, -, -⟩ := HS.out.get (List.mem_cons_of_mem _ (List.mem_cons_of_mem _ (List.mem_cons_of_mem _ List.mem_cons_self)))
  rw [HQABC.out] at d7
  obtain ⟨-, c8, d8, -, -⟩ := HS.out.get (List.mem_cons_of_mem _ (List.mem_cons_of_mem _ List.mem_cons_self))
  rw [HQABC.out] at d8
  go_wp2_with fail
  clear c7 d7 c8 d8
  obtain ⟨-, -, -, sa, -⟩ := HS.out.get (List.mem_cons_of_mem _ (List.mem_cons_of_mem _ (List.mem_cons_of_mem _ List.mem_cons_self)))
  obtain ⟨-, -, -, sb, -⟩ := HS.out.get (List.mem_cons_of_mem _ (List.mem_cons_of_mem _ List.mem_cons_self))
  refine (sameSm k ABC qABC ad7 ad8 cp7 cp8 _ sa sb HQABC.out (by omega)).mono ?_; rintro e u178 ⟨rfl, hf⟩
  have hs := HS.out.keep hf.bel
  have hF := HF.out.keep hf.bel
  clear HS HF sa sb hf
  have HS := Lib.hid hs; have HF := Lib.hid hF
  clear hs hF
  obtain ⟨-, c7, d7, -, -⟩ := HS.out.get (List.mem_cons_of_mem _ (List.mem_cons_of_mem _ (List.mem_cons_of_mem _ List.mem_cons_self)))
  rw [HQABC.out] at d7
  obtain ⟨-, c9, d9, -, -⟩ := HS.out.get (List.mem_cons_of_mem _ List.mem_cons_self)
  rw [HQABC.out] at d9
  go_wp2_with fail
  clear c7 d7 c9 d9
  obtain ⟨-, -, -, sa, -⟩ := HS.out.get (List.mem_cons_of_mem _ (List.mem_cons_of_mem _ (List.mem_cons_of_mem _ List.mem_cons_self)))
  obtain ⟨-, -, -, sb, -⟩ := HS.out.get (List.mem_cons_of_mem _ List.mem_cons_self)
  refine (sameSm k ABC qABC ad7 ad9 cp7 cp9 _ sa sb HQABC.out (by omega)).mono ?_; rintro e u179 ⟨rfl, hf⟩
  have hs := HS.out.keep hf.bel
  have hF := HF.out.keep hf.bel
  clear HS HF sa sb hf
  have HS := Lib.hid hs; have HF := Lib.hid hF
  clear hs hF
  obtain ⟨-, c10, d10, -, -⟩ := HS.out.get List.mem_cons_self
  rw [HQA.out] at d10
  obtain ⟨-, c1, d1, -, -⟩ := HS.out.get (List.mem_cons_of_mem _ (List.mem_cons_of_mem _ (List.mem_cons_of_mem _ (List.mem_cons_of_mem _ (List.mem_cons_of_mem _ (List.mem_cons_of_mem _ (List.mem_cons_of_mem _ (List.mem_cons_of_mem _ (List.mem_cons_of_mem _ List.mem_cons_self)))))))))
  rw [HQA.out] at d1
  go_wp2_with fail
  clear c10 d10 c1 d1
  obtain ⟨-, -, -, sa, -⟩ := HS.out.get List.mem_cons_self
  obtain ⟨-, -, -, sb, -⟩ := HS.out.get (List.mem_cons_of_mem _ (List.mem_cons_of_mem _ (List.mem_cons_of_mem _ (List.mem_cons_of_mem _ (List.mem_cons_of_mem _ (List.mem_cons_of_mem _ (List.mem_cons_of_mem _ (List.mem_cons_of_mem _ (List.mem_cons_of_mem _ List.mem_cons_self)))))))))
  refine (sameSm k A qA ad10 ad1 cp10 cp1 _ sa sb HQA.out (by omega)).mono ?_; rintro e u201 ⟨rfl, hf⟩
  have hs := HS.out.keep hf.bel
  have hF := HF.out.keep hf.bel
  clear HS HF sa sb hf
  have HS := Lib.hid hs; have HF := Lib.hid hF
  clear hs hF
  go_wp2_with fail
  go_ret
  exact ⟨rfl, HF.out⟩
end Go.Proofs.Ytfompfaepabpgaa
