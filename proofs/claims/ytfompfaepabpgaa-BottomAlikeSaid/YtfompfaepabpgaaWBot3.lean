/- The walk of BottomAlike. -/
import Derived.Test.YtfompfaepabpgaaBotN
import Derived.Test.YtfompfaepabpgaaBotA
import Derived.Test.YtfompfaepabpgaaStrsF
import Derived.Test.YtfompfaepabpgaaSrtStr
import Derived.Test.YtfompfaepabpgaaCatB
namespace Go.Proofs.Ytfompfaepabpgaa
open Go.RowKit

theorem memB_same {x : ByteArray} {l m : List ByteArray} (h : x ∈ l ↔ x ∈ m) : memB x l = memB x m := by
  cases hl : memB x l
  · cases hm : memB x m
    · rfl
    · have := memB_iff.2 (h.2 (memB_iff.1 hm)); rw [hl] at this; cases this
  · exact (memB_iff.2 (h.1 (memB_iff.1 hl))).symm
theorem setS_nodup (l : List ByteArray) : (setS l).Nodup := (setS_in l).1.imp fun {a b} h e => by subst e; exact ltS_irr _ h
theorem sk_len (k : Nat) (l : List ByteArray) : (skS k l).length = min k (unqS l).length := by
  unfold skS; rw [List.length_take, unqS_len]
theorem sk_all {k : Nat} {l : List ByteArray} (h : (unqS l).length ≤ k) : skS k l = setS l := by
  unfold skS; rw [unqS_len] at h; exact List.take_of_length_le h
theorem unq_le {l m : List ByteArray} (h : ∀ e ∈ l, e ∈ m) : (unqS l).length ≤ (unqS m).length :=
  (unqS_in l).1.length_le_of_subset fun e he => ((unqS_in m).2 e).2 (h e (((unqS_in l).2 e).1 he))
/-- of few names it is how many both have -/
theorem alike_few {k : Nat} {x y : List ByteArray} (h : (unqS (x ++ y)).length ≤ k) : cntB (skS k x) (skS k y) (skS k (x ++ y)) = cntB x y (unqS (x ++ y)) := by
  have hx : skS k x = setS x := sk_all (Nat.le_trans (unq_le fun e he => List.mem_append_left _ he) h)
  have hy : skS k y = setS y := sk_all (Nat.le_trans (unq_le fun e he => List.mem_append_right _ he) h)
  have hp : (setS (x ++ y)).Perm (unqS (x ++ y)) := (List.perm_ext_iff_of_nodup (setS_nodup _) (unqS_in _).1).2 fun e => ((setS_in _).2 e).trans ((unqS_in _).2 e).symm
  rw [hx, hy, sk_all h]
  unfold cntB
  rw [← (hp.filter fun e => memB e x && memB e y).length_eq]
  congr 1
  refine List.filter_congr fun e _ => ?_
  rw [memB_same ((setS_in x).2 e), memB_same ((setS_in y).2 e)]
theorem cntB_comm (l l' r : List ByteArray) : cntB l' l r = cntB l l' r := by
  unfold cntB
  congr 1
  exact List.filter_congr fun e _ => Bool.and_comm _ _
theorem cntB_self (l : List ByteArray) : cntB l l l = l.length := by
  unfold cntB
  rw [List.filter_eq_self.2 fun e he => by rw [memB_iff.2 he]; rfl]

set_option maxRecDepth 100000 in
set_option maxHeartbeats 8000000 in
theorem bottomAlike_no (hsort : SortsNames) (most : Int) (x y : List ByteArray) (n1 n2 : Nat) (a b : Option Addr) (ca cb : Nat) (w : World) (hx : IsNames w a n1 ca x) (hy : IsNames w b n2 cb y)
    (s1 : n1 * 16 ≤ 140737488351232) (s2 : n2 * 16 ≤ 140737488351232) (hbad : OfBad most x ∨ OfBad most y) :
    Calls Try.prog 9 #[.int .i64 most, .slice a n1 ca, .slice b n2 cb] w (RetB true w) := by
  have HB := Lib.hid (bottomsOk hsort w)
  have HX := Lib.hid (fun w' (b : Below w.heap.size w w') => botOfAny hsort most x n1 a ca w' (hx.hsa.keep b) hx.hlen hx.hnil (by omega))
  have HY := Lib.hid (fun w' (b' : Below w.heap.size w w') => botOfAny hsort most y n2 b cb w' (hy.hsa.keep b') hy.hlen hy.hnil (by omega))
  have HBad := Lib.hid hbad
  clear hx hy hsort hbad s1 s2
  go_enter Try.func9, Try.ntmps9
  go_wp2_with fail
  refine HB.out.mono ?_; rintro e w1 ⟨rfl, hf1⟩
  have HF1 := Lib.hid hf1
  clear HB hf1
  go_wp2_with fail
  refine (HX.out _ HF1.out.bel).mono ?_; rintro e v1 ⟨e1, k1, ad1, m1, cp1, rfl, hl1, hi1, hm1, hb1⟩
  obtain ⟨P1, hP1⟩ : ∃ P, v1.heap.size = P := ⟨_, rfl⟩
  have HF2 := Lib.hid ((HF1.out.keep hb1).alloc (.cells #[.int .i64 k1, .slice ad1 m1 cp1] 48))
  have HI1 := Lib.hid hi1
  clear hb1 hi1 hl1
  go_wp2_with fail
  refine (HY.out _ HF2.out.bel).mono ?_; rintro e v2 ⟨e2, k2, ad2, m2, cp2, rfl, hl2, hi2, hm2, hb2⟩
  obtain ⟨P2, hP2⟩ : ∃ P, v2.heap.size = P := ⟨_, rfl⟩
  have HF3 := Lib.hid ((HF2.out.keep hb2).alloc (.cells #[.int .i64 k2, .slice ad2 m2 cp2] 48))
  have HI2 := Lib.hid hi2
  clear hb2 hi2 hl2
  go_wp2_with fail
  refine (good_list [e1, e2] (v2.alloc (.cells #[.int .i64 k2, .slice ad2 m2 cp2] 48)) (P2 + 1) 28 (by simp [hP2]) #[.int .i64 e1, .int .i64 e2] rfl 2 rfl (by omega)).mono ?_; rintro e w' ⟨rfl, rfl⟩
  have HF5 := Lib.hid (HF3.out.alloc (.cells #[.int .i64 e1, .int .i64 e2] 28))
  have hg : ([e1, e2].all fun x => x == 0) = false := by
    rw [List.all_eq_false]
    rcases HBad.out with h | h
    · exact ⟨e1, by simp, by simpa using HI1.out.2 h⟩
    · exact ⟨e2, by simp, by simpa using HI2.out.2 h⟩
  rw [hg]
  clear HBad hg HI1 HI2 HF1 HF2 HF3
  go_wp2_with fail
  go_ret
  exact ⟨rfl, HF5.out⟩
set_option maxRecDepth 100000 in
set_option maxHeartbeats 16000000 in
theorem bottomAlike_yes (hsort : SortsNames) (k : Nat) (x y : List ByteArray) (n1 n2 : Nat) (a b : Option Addr) (ca cb : Nat) (w : World) (hx : IsNames w a n1 ca x) (hy : IsNames w b n2 cb y)
    (s1 : n1 * 16 ≤ 140737488351232) (s2 : n2 * 16 ≤ 140737488351232) (k1 : 1 ≤ k) (k2 : k ≤ 30) (zx : ∀ u ∈ x, u.size ≤ 12) (zy : ∀ u ∈ y, u.size ≤ 12) :
    Calls Try.prog 9 #[.int .i64 k, .slice a n1 ca, .slice b n2 cb] w (RetB true w) := by
  have oA := sk_ok k x k1 k2 zx
  have oB := sk_ok k y k1 k2 zy
  have eab := sk_join k x y
  have eba := (sk_join k y x).trans (sk_comm k y x)
  have eaa := sk_self k x
  have hml := sk_len k (x ++ y)
  have hfew := @alike_few k x y
  have hUl : (unqS (x ++ y)).length ≤ n1 + n2 := by
    rw [← hx.hlen, ← hy.hlen, ← List.length_append]
    exact (unqS_in (x ++ y)).1.length_le_of_subset fun e he => ((unqS_in _).2 e).1 he
  have hU0 : unqS (x ++ y) = cmpS (srtB (x ++ y)) := rfl
  obtain ⟨U, hU⟩ : ∃ r, unqS (x ++ y) = r := ⟨_, rfl⟩
  rw [hU] at hml hfew hUl hU0
  obtain ⟨D, hD⟩ : ∃ r, U.length = r := ⟨_, rfl⟩
  rw [hD] at hml hfew hUl
  obtain ⟨A, hA⟩ : ∃ r, skS k x = r := ⟨_, rfl⟩
  obtain ⟨B, hB⟩ : ∃ r, skS k y = r := ⟨_, rfl⟩
  obtain ⟨M, hM⟩ : ∃ r, skS k (x ++ y) = r := ⟨_, rfl⟩
  rw [hA] at oA eab eba eaa hfew
  rw [hB] at oB eab eba hfew
  rw [hM] at eab eba hml hfew
  have hcle := cntB_le A B M
  have hsym := cntB_comm A B M
  have hsel := cntB_self A
  obtain ⟨qA, hqA⟩ : ∃ q, A.length = q := ⟨_, rfl⟩
  have HQA := Lib.hid hqA; have HEA := Lib.hid hA
  obtain ⟨qB, hqB⟩ : ∃ q, B.length = q := ⟨_, rfl⟩
  have HQB := Lib.hid hqB; have HEB := Lib.hid hB
  obtain ⟨qM, hqM⟩ : ∃ q, M.length = q := ⟨_, rfl⟩
  have HQM := Lib.hid hqM; have HEM := Lib.hid hM
  rw [hqM] at hcle hml
  rw [hqA] at hsel
  obtain ⟨c, hc⟩ : ∃ c, cntB A B M = c := ⟨_, rfl⟩
  rw [hc] at hcle hsym hfew
  have hq30 : qM ≤ 30 := by omega
  have hA30 : qA ≤ 30 := by rw [← hqA]; exact smOk_len oA
  have HAl1 := Lib.hid (fun (na nb : Option Addr) (pa pb : Nat) (w : World) (h : Sa w na (strV A)) (h' : Sa w nb (strV B)) (z : na = none → A.length = 0 ∧ pa = 0) (z' : nb = none → B.length = 0 ∧ pb = 0) => botAlike hsort k A B _ _ na nb pa pb w h h' rfl rfl z z' oA oB)
  have HAl2 := Lib.hid (fun (na nb : Option Addr) (pa pb : Nat) (w : World) (h : Sa w na (strV B)) (h' : Sa w nb (strV A)) (z : na = none → B.length = 0 ∧ pa = 0) (z' : nb = none → A.length = 0 ∧ pb = 0) => botAlike hsort k B A _ _ na nb pa pb w h h' rfl rfl z z' oB oA)
  have HAl3 := Lib.hid (fun (na nb : Option Addr) (pa pb : Nat) (w : World) (h : Sa w na (strV A)) (h' : Sa w nb (strV A)) (z : na = none → A.length = 0 ∧ pa = 0) (z' : nb = none → A.length = 0 ∧ pb = 0) => botAlike hsort k A A _ _ na nb pa pb w h h' rfl rfl z z' oA oA)
  rw [eab, hc, hqM, hqA, hqB] at HAl1
  rw [eba, hsym, hqM, hqA, hqB] at HAl2
  rw [eaa, hsel, hqA] at HAl3
  have Hzx := Lib.hid zx
  have Hzy := Lib.hid zy
  have Hhfew := Lib.hid hfew
  have Hhml := Lib.hid hml
  have HhU0 := Lib.hid hU0
  have HhD := Lib.hid hD
  have HhU := Lib.hid hU
  have HhUl := Lib.hid hUl
  have HB := Lib.hid (bottomsOk hsort w)
  have HX := Lib.hid hx; have HY := Lib.hid hy; have HSort := Lib.hid hsort
  clear hx hy hsort hA hB hM hqA hqB hqM oA oB eab eba eaa zx zy hml hfew hUl hU0 hU hD hc hsym hsel
  go_enter Try.func9, Try.ntmps9
  go_wp2_with fail
  refine HB.out.mono ?_; rintro e w1 ⟨rfl, hf1⟩
  have HF := Lib.hid hf1
  have HS := Lib.hid (SmsIn.nil k w1)
  clear HB hf1
  go_wp2_with fail
  refine (botOfOk HSort.out k x A qA n1 a ca _ (HX.out.hsa.keep HF.out.bel) HX.out.hlen HX.out.hnil (by omega) k1 k2 Hzx.out HEA.out HQA.out).mono ?_; rintro e v1 ⟨ad1, cp1, rfl, hf⟩
  obtain ⟨P1, hP1⟩ : ∃ P, v1.heap.size = P := ⟨_, rfl⟩
  have hs := HS.out.new hf hP1 HQA.out
  have hF := (HF.out.keep hf.bel).alloc (.cells #[.int .i64 k, .slice ad1 qA cp1] 48)
  clear HS HF hf
  have HS := Lib.hid hs; have HF := Lib.hid hF
  clear hs hF
  go_wp2_with fail
  refine (botOfOk HSort.out k y B qB n2 b cb _ (HY.out.hsa.keep HF.out.bel) HY.out.hlen HY.out.hnil (by omega) k1 k2 Hzy.out HEB.out HQB.out).mono ?_; rintro e v2 ⟨ad2, cp2, rfl, hf⟩
  obtain ⟨P2, hP2⟩ : ∃ P, v2.heap.size = P := ⟨_, rfl⟩
  have hs := HS.out.new hf hP2 HQB.out
  have hF := (HF.out.keep hf.bel).alloc (.cells #[.int .i64 k, .slice ad2 qB cp2] 48)
  clear HS HF hf
  have HS := Lib.hid hs; have HF := Lib.hid hF
  clear hs hF
  go_wp2_with fail
  refine (good_list [0, 0] (v2.alloc (.cells #[.int .i64 k, .slice ad2 qB cp2] 48)) (P2 + 1) 28 (by simp [hP2]) #[.int .i64 0, .int .i64 0] rfl 2 rfl (by omega)).mono ?_; rintro e w' ⟨rfl, rfl⟩
  have hs := HS.out.keep ((Fr.start _).alloc (.cells #[.int .i64 0, .int .i64 0] 28)).bel
  have hF := HF.out.alloc (.cells #[.int .i64 0, .int .i64 0] 28)
  clear HS HF
  have HS := Lib.hid hs; have HF := Lib.hid hF
  clear hs hF
  rw [show (([0, 0] : List Int).all fun x => x == 0) = true from rfl]
  obtain ⟨-, c1, d1, -, -⟩ := HS.out.get (List.mem_cons_of_mem _ List.mem_cons_self)
  rw [HQA.out] at d1
  obtain ⟨-, c2, d2, -, -⟩ := HS.out.get List.mem_cons_self
  rw [HQB.out] at d2
  go_wp2_with fail
  clear c1 d1 c2 d2
  obtain ⟨-, -, -, sa, na⟩ := HS.out.get (List.mem_cons_of_mem _ List.mem_cons_self)
  obtain ⟨-, -, -, sb, nb⟩ := HS.out.get List.mem_cons_self
  rw [HQA.out] at na
  rw [HQB.out] at nb
  refine (HAl1.out ad1 ad2 cp1 cp2 _ sa sb na nb).mono ?_; rintro e t1 ⟨rfl, hf⟩
  clear sa sb na nb
  have hs := HS.out.keep hf.bel
  have hF := HF.out.keep hf.bel
  clear HS HF hf
  have HS := Lib.hid hs; have HF := Lib.hid hF
  clear hs hF
  obtain ⟨-, c2, d2, -, -⟩ := HS.out.get List.mem_cons_self
  rw [HQB.out] at d2
  obtain ⟨-, c1, d1, -, -⟩ := HS.out.get (List.mem_cons_of_mem _ List.mem_cons_self)
  rw [HQA.out] at d1
  go_wp2_with fail
  clear c2 d2 c1 d1
  obtain ⟨-, -, -, sa, na⟩ := HS.out.get List.mem_cons_self
  obtain ⟨-, -, -, sb, nb⟩ := HS.out.get (List.mem_cons_of_mem _ List.mem_cons_self)
  rw [HQB.out] at na
  rw [HQA.out] at nb
  refine (HAl2.out ad2 ad1 cp2 cp1 _ sa sb na nb).mono ?_; rintro e t2 ⟨rfl, hf⟩
  clear sa sb na nb
  have hs := HS.out.keep hf.bel
  have hF := HF.out.keep hf.bel
  clear HS HF hf
  have HS := Lib.hid hs; have HF := Lib.hid hF
  clear hs hF
  obtain ⟨-, c1, d1, -, -⟩ := HS.out.get (List.mem_cons_of_mem _ List.mem_cons_self)
  rw [HQA.out] at d1
  go_wp2_with fail
  clear c1 d1
  obtain ⟨-, -, -, sa, na⟩ := HS.out.get (List.mem_cons_of_mem _ List.mem_cons_self)
  obtain ⟨-, -, -, sb, nb⟩ := HS.out.get (List.mem_cons_of_mem _ List.mem_cons_self)
  rw [HQA.out] at na
  rw [HQA.out] at nb
  refine (HAl3.out ad1 ad1 cp1 cp1 _ sa sb na nb).mono ?_; rintro e t3 ⟨rfl, hf⟩
  clear sa sb na nb
  have hs := HS.out.keep hf.bel
  have hF := HF.out.keep hf.bel
  clear HS HF hf
  have HS := Lib.hid hs; have HF := Lib.hid hF
  clear hs hF
  obtain ⟨O, hO⟩ : ∃ O, t3.heap.size = O := ⟨_, rfl⟩
  go_wp2_with fail
  refine (good_list [0, 0, 0] t3 O 28 (by simp [hO]) #[.int .i64 0, .int .i64 0, .int .i64 0] rfl 3 rfl (by omega)).mono ?_; rintro e w' ⟨rfl, rfl⟩
  have hs := HS.out.keep ((Fr.start _).alloc (.cells #[.int .i64 0, .int .i64 0, .int .i64 0] 28)).bel
  have hF := HF.out.alloc (.cells #[.int .i64 0, .int .i64 0, .int .i64 0] 28)
  clear HS HF
  have HS := Lib.hid hs; have HF := Lib.hid hF
  clear hs hF
  rw [show (([0, 0, 0] : List Int).all fun x => x == 0) = true from rfl]
  have g1 : ((c : Int) != (c : Int)) = false := by simp
  have g2 : ((qM : Int) != (qM : Int)) = false := by simp
  have g3 : ((qA : Int) != (qA : Int)) = false := by simp
  have g4 : decide ((c : Int) < 0) = false := decide_eq_false (by omega)
  have g5 : decide ((qM : Int) < (c : Int)) = false := decide_eq_false (by omega)
  obtain ⟨-, c1, d1, -, -⟩ := HS.out.get (List.mem_cons_of_mem _ List.mem_cons_self)
  rw [HQA.out] at d1
  go_wp2_with fail
  clear c1 d1
  clear g1 g2 g3 g4 g5
  obtain ⟨O2, hO2⟩ : ∃ O2, (t3.alloc (.cells #[.int .i64 0, .int .i64 0, .int .i64 0] 28)).heap.size = O2 := ⟨_, rfl⟩
  have hO2' : O + 1 = O2 := by rw [← hO2, ← hO]; simp
  have h1 := HF.out.new 42 #[.slice a n1 ca, .slice b n2 cb] [.slice a n1 ca, .slice b n2 cb] rfl 2 rfl (by omega)
  rw [hO2] at h1
  try rw [hO2']
  obtain ⟨hg, g0, g1⟩ := smCells (h1.get 0 rfl)
  have HF1 := Lib.hid h1.below
  have HCAT : Hid (Calls Try.prog 28 #[.slice (some ⟨O2, 0, none⟩) 2 2] ((t3.alloc (.cells #[.int .i64 0, .int .i64 0, .int .i64 0] 28)).alloc (.cells #[.slice a n1 ca, .slice b n2 cb] 42)) fun e w' => ∃ ad cp, e = .returned (.slice ad (n1 + n2) cp) ∧ Fr ((t3.alloc (.cells #[.int .i64 0, .int .i64 0, .int .i64 0] 28)).alloc (.cells #[.slice a n1 ca, .slice b n2 cb] 42)) w' [⟨9, .slice ad (n1 + n2) cp, strV x ++ strV y⟩]) := by
    refine Lib.hid ?_
    by_cases h0 : 0 < n1 + n2
    · exact catSB (strV x) (strV y) n1 n2 a b ca cb O2 _ (HX.out.hsa.keep h1.bel) (HY.out.hsa.keep h1.bel) (by rw [strV_len]; exact HX.out.hlen) (by rw [strV_len]; exact HY.out.hlen)
        (strV_one x) (strV_one y) (fun e => (HX.out.hnil e).symm) (fun e => (HY.out.hnil e).symm) h0 (by omega) hg g0 g1
    · exact catS (strV x) (strV y) n1 n2 a b ca cb O2 _ (HX.out.hsa.keep h1.bel) (HY.out.hsa.keep h1.bel) (by rw [strV_len]; exact HX.out.hlen) (by rw [strV_len]; exact HY.out.hlen)
        (strV_one x) (strV_one y) (fun e => (HX.out.hnil e).symm) (fun e => (HY.out.hnil e).symm) (by omega) hg g0 g1
  clear h1 hg g0 g1
  refine HCAT.out.mono ?_; rintro e w2 ⟨ad0, cp0, rfl, hf⟩
  rw [show strV x ++ strV y = strV (x ++ y) by unfold strV; rw [List.map_append]] at hf
  have hF := HF1.out.call hf
  clear HS HF hf HF1 HCAT
  have HF := Lib.hid hF
  clear hF
  go_wp2_with fail
  refine (slSortStr (x ++ y) (n1 + n2) cp0 ad0 w2 HF.out (by omega)).mono ?_; rintro e w3 ⟨rfl, hf⟩
  clear HF
  have HF := Lib.hid hf
  clear hf
  go_wp2_with fail
  refine (slCompS (srtB (x ++ y)) (n1 + n2) cp0 ad0 w3 HF.out (by omega)).mono ?_; rintro e w4 ⟨rfl, r, hr1, hr2, hr3, hf⟩
  rw [← HhU0.out, HhD.out] at hr2 hr3 ⊢
  have hcut := hf.cut D (by rw [strV_len, hr1]; exact hr3)
  rw [strV_take, hr2] at hcut
  clear HF hf
  have HF := Lib.hid hcut.below
  have HFu := Lib.hid hcut
  clear hcut hr1 hr2 hr3
  by_cases hDk : k < D
  · have g1 : decide ((k : Int) < (D : Int)) = true := decide_eq_true (by omega)
    have g2 : ((qM : Int) == (k : Int)) = true := by rw [beq_iff_eq]; have := Hhml.out; omega
    go_wp2_with fail
    go_ret
    exact ⟨rfl, HF.out⟩
  · have g1 : decide ((k : Int) < (D : Int)) = false := decide_eq_false (by omega)
    have hfew := Hhfew.out (by omega)
    have hqD : qM = D := by have := Hhml.out; omega
    have HFew := Lib.hid hfew
    have HqD := Lib.hid hqD
    have HSX := Lib.hid HX.out.hsa
    have HSY := Lib.hid HY.out.hsa
    have HLX := Lib.hid HX.out.hlen
    have HLY := Lib.hid HY.out.hlen
    clear hfew hqD
    go_wp2_with fail
    clear g1
    go_loopw [21, 118] (fun c' i wr => ∃ j : Nat, j ≤ D ∧ i = .int .i64 j ∧ c' = .int .i64 (cntB x y (U.take j) : Nat) ∧ Hid (Fr w4 wr [])) (fun _ i _ => D - (intOf i).toNat)
    case atStart => exact ⟨0, by omega, rfl, rfl, Lib.hid (Fr.start w4)⟩
    case round =>
      obtain ⟨j, hj, rfl, rfl, HG⟩ := hrel
      by_cases hlt : j < D
      · obtain ⟨t, ht⟩ : ∃ t, U[j]? = some t := ⟨_, List.getElem?_eq_getElem (by rw [HhD.out]; exact hlt)⟩
        obtain ⟨bq, oq, rfl, -, y1⟩ := ((HFu.out.keep HG.out.bel).get 0 rfl).strA j t ht
        have hsn := cntB_snoc x y U j t ht
        have hcl := cntB_le x y (U.take j)
        rw [List.length_take] at hcl
        have d1 : (0 : Int) ≤ (j : Int) := by omega
        have d2 : (j : Int) < (D : Int) := by omega
        obtain ⟨z, hz⟩ : ∃ z, cntB x y (U.take j) = z := ⟨_, rfl⟩
        rw [hz] at hsn hcl ⊢
        have HSn := Lib.hid hsn
        clear hsn hz ht
        have HC1 := Lib.hid (slCoS x n1 a ca t wr ((HFu.out.keep HG.out.bel).old HSX.out) HLX.out (by unfold maxLen; omega))
        go_wp2_with fail
        refine HC1.out.mono ?_; rintro e w5 ⟨b1, rfl, hb1, hf⟩
        have HG2 := Lib.hid (HG.out.keep hf.bel)
        have HB1 := Lib.hid hb1
        clear HC1 hf hb1 y1
        cases b1
        · go_wp2_with fail
          refine ⟨⟨j + 1, by omega, by simp, ?_, HG2⟩, by simp only [intOf]; omega⟩
          rw [HSn.out, if_neg (fun h => by have := HB1.out.2 (memB_iff.1 (Bool.and_eq_true_iff.1 h).1); cases this)]; rfl
        · have HC2 := Lib.hid (slCoS y n2 b cb t w5 ((HFu.out.keep HG2.out.bel).old HSY.out) HLY.out (by unfold maxLen; omega))
          go_wp2_with fail
          refine HC2.out.mono ?_; rintro e w6 ⟨b2, rfl, hb2, hf⟩
          have HG3 := Lib.hid (HG2.out.keep hf.bel)
          have HB2 := Lib.hid hb2
          clear HC2 hf hb2
          cases b2
          · go_wp2_with fail
            refine ⟨⟨j + 1, by omega, by simp, ?_, HG3⟩, by simp only [intOf]; omega⟩
            rw [HSn.out, if_neg (fun h => by have := HB2.out.2 (memB_iff.1 (Bool.and_eq_true_iff.1 h).2); cases this)]; rfl
          · go_wp2_with fail
            refine ⟨⟨j + 1, by omega, by simp, ?_, HG3⟩, by simp only [intOf]; omega⟩
            rw [HSn.out, if_pos (Bool.and_eq_true_iff.2 ⟨memB_iff.2 (HB1.out.1 (by trivial)), memB_iff.2 (HB2.out.1 (by trivial))⟩)]; simp
      · obtain rfl : j = D := by omega
        have hR : U.take j = U := List.take_of_length_le (by rw [HhD.out]; omega)
        rw [hR, ← HFew.out]
        have g2 : ((c : Int) == (c : Int)) = true := beq_self_eq_true _
        have g3 : ((qM : Int) == (j : Int)) = true := by rw [beq_iff_eq, HqD.out]
        go_wp2_with fail
        go_ret
        exact ⟨rfl, HF.out.keep HG.out.bel⟩
end Go.Proofs.Ytfompfaepabpgaa
