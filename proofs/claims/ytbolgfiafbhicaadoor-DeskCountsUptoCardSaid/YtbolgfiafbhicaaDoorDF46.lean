/- Several of my texts in one: Dsk5. -/
import Derived.Test.YtbolgfiafbhicaaDoorDF45
/- Contract of asked: turned, shapes, nest, sum, all. -/
namespace Go.Proofs.YtbolgfiafbhicaaDoor
open Go.RowKit

theorem hk_ge (l : List Int) (i k : Nat) : ∀ t, nth l i - k ≤ hkN l i k t
  | 0 => by rw [hkN]; exact Int.le_refl _
  | t + 1 => by
    have := hk_ge l i k t
    rw [hkN]
    split <;> omega
theorem divK_bd (l : List Int) (i : Nat) (v : Int) (hv : 0 ≤ v) : ∀ k, k ≤ (nth l i).toNat → 0 ≤ divK l i v k ∧ divK l i v k ≤ v
  | 0, _ => by rw [divK]; exact ⟨hv, Int.le_refl _⟩
  | k + 1, h => by
    obtain ⟨h1, h2⟩ := divK_bd l i v hv k (by omega)
    have h3 := hk_ge l i k (l.length - (i + 1))
    have h4 := div_bd (divK l i v k) (hkN l i k (l.length - (i + 1))) h1 (by omega)
    rw [divK]
    exact ⟨h4.1, by omega⟩
theorem divI_bd {l : List Int} (hs : Shp l) : ∀ i, 0 ≤ divI l i ∧ divI l i ≤ 479001600
  | 0 => by
    have h1 := hs.few l.length (Nat.le_refl _)
    have h2 := fct_bd (psumL l l.length).toNat (by omega)
    rw [divI]
    omega
  | i + 1 => by
    obtain ⟨h1, h2⟩ := divI_bd hs i
    have := divK_bd l i (divI l i) h1 (nth l i).toNat (Nat.le_refl _)
    rw [divI]
    omega
set_option maxRecDepth 100000 in
set_option maxHeartbeats 8000000 in
theorem askTurn (wd : ByteArray) (hw : wd.toList = [116, 117, 114, 110, 101, 100]) (l : List ByteArray) (n : Nat) (a : Option Addr) (cap : Nat) (w : World) (h : Sa w a (strV l)) (hn : l.length = n) (hm : n ≤ 10000) (hl : ∀ s ∈ l, s.size ≤ maxLen) (ht : TabW w) :
    Calls Tryd.prog 22 #[.string wd, .slice a n cap] w (AskSaid (turnA l) w) := by
  have HNS := Lib.hid (deskNums l n a cap w h hn hm hl); have HT := Lib.hid ht
  have HLN := Lib.hid (fun p (hp : numsB l = some p) => numsB_bd hp)
  have HN := Lib.hid hn
  obtain ⟨R, hR⟩ : ∃ R, numsB l = R := ⟨_, rfl⟩
  have HA : Hid (turnA l = turnO R) := Lib.hid (by unfold turnA; rw [hR])
  rw [hR] at HNS HLN
  clear h hn hl ht hR
  go_enter Tryd.func22, Tryd.ntmps22
  go_wp2_with fail
  refine HNS.out.mono ?_
  rintro e w1 (⟨p, ad, m, cp, rfl, rfl, hpm, hcp, hf1⟩ | ⟨rfl, rfl, hf1⟩)
  · have HB := Lib.hid (HLN.out p rfl)
    have HF1 := Lib.hid hf1
    have hm2 : m ≤ 10000 := by have := HB.out.1; have := HN.out; omega
    by_cases hc : ckE 40 40 0 p = 0
    · have HO : Hid (turnA l = .ok (listB (trn p))) := Lib.hid (by rw [HA.out, turnO, if_pos hc])
      have hb := trn_bd p (ck_part hc) p.length (Nat.le_refl _)
      rw [List.take_length] at hb
      have HC := Lib.hid (partTurned p m ad cp w1 (hf1.get 0 rfl) hpm (ck_part hc))
      obtain ⟨q, hq⟩ : ∃ q, trn p = q := ⟨_, rfl⟩
      rw [hq] at HC HO hb
      obtain ⟨z, hz⟩ : ∃ z, q.length = z := ⟨_, rfl⟩
      have HQB : Hid (∀ x ∈ q, -9223372036854775808 ≤ x ∧ x ≤ 9223372036854775807) := Lib.hid (fun x hx => by
        obtain ⟨i, hi, rfl⟩ := List.getElem_of_mem hx
        have := hb.2 i hi
        have e : nth q i = q[i] := by simp [nth, hi]
        rw [e] at this; omega)
      have hz40 : z ≤ 40 := by rw [← hz]; exact hb.1
      have HZ := Lib.hid hz
      clear hf1 hpm hc hq HA HNS HLN hb hz
      go_wp2_with fail
      refine HC.out.mono ?_; rintro e w2 ⟨ad2, cp2, rfl, -, hf2⟩
      rw [HZ.out] at hf2 ⊢
      have HF2 := Lib.hid (HF1.out.below.keep hf2.bel)
      have HL := Lib.hid (deskList q z ad2 cp2 w2 (hf2.get 0 rfl) HZ.out (by omega) HQB.out (HT.out.keep HF2.out.bel))
      clear hf2 HC HF1
      go_wp2_with fail
      refine (must0 _).mono ?_; rintro e w3 ⟨rfl, rfl⟩
      go_wp2_with fail
      refine HL.out.mono ?_; rintro e w4 ⟨rfl, hf4⟩
      have HF4 := Lib.hid (HF2.out.keep hf4.bel)
      clear hf4 HL
      go_wp2_with fail
      go_ret
      exact ⟨HF4.out, .inl ⟨_, HO.out, rfl⟩⟩
    · have HO : Hid (turnA l = .error (ckE 40 40 0 p)) := Lib.hid (by rw [HA.out, turnO, if_neg hc])
      have HC := Lib.hid (turnNo p m ad cp w1 (hf1.get 0 rfl) hpm (by unfold maxLen; omega) hc)
      have HM := Lib.hid (mustE (ckE 40 40 0 p) hc)
      obtain ⟨x, hxe⟩ : ∃ x, ckE 40 40 0 p = x := ⟨_, rfl⟩
      rw [hxe] at HC HO HM
      clear hf1 hpm hc hxe HA HNS HLN
      go_wp2_with fail
      refine HC.out.mono ?_; rintro e w2 ⟨rfl, rfl⟩
      go_wp2_with fail
      refine (HM.out _).mono ?_; rintro e w3 ⟨rfl, rfl⟩
      go_wp2_with fail
      exact ⟨rfl, HF1.out.below, .inr ⟨_, HO.out, rfl⟩⟩
  · have HF1 := Lib.hid hf1
    have HO : Hid (turnA l = .error 10) := HA
    clear hf1 HNS HLN
    go_wp2_with fail
    exact ⟨rfl, HF1.out, .inr ⟨10, HO.out, rfl⟩⟩
set_option maxRecDepth 100000 in
set_option maxHeartbeats 8000000 in
theorem askShap (wd : ByteArray) (hw : wd.toList = [115, 104, 97, 112, 101, 115]) (l : List ByteArray) (n : Nat) (a : Option Addr) (cap : Nat) (w : World) (h : Sa w a (strV l)) (hn : l.length = n) (hm : n ≤ 10000) (hl : ∀ s ∈ l, s.size ≤ maxLen) (ht : TabW w) :
    Calls Tryd.prog 22 #[.string wd, .slice a n cap] w (AskSaid (shapA l) w) := by
  have HNS := Lib.hid (deskNums l n a cap w h hn hm hl); have HT := Lib.hid ht
  have HLN := Lib.hid (fun p (hp : numsB l = some p) => numsB_bd hp)
  have HN := Lib.hid hn
  obtain ⟨R, hR⟩ : ∃ R, numsB l = R := ⟨_, rfl⟩
  have HA : Hid (shapA l = shapO R) := Lib.hid (by unfold shapA; rw [hR])
  rw [hR] at HNS HLN
  clear h hn hl ht hR
  go_enter Tryd.func22, Tryd.ntmps22
  go_wp2_with fail
  refine HNS.out.mono ?_
  rintro e w1 (⟨p, ad, m, cp, rfl, rfl, hpm, hcp, hf1⟩ | ⟨rfl, rfl, hf1⟩)
  · have HB := Lib.hid (HLN.out p rfl)
    have HF1 := Lib.hid hf1.below
    have hm2 : m ≤ 10000 := by have := HB.out.1; have := HN.out; omega
    by_cases hc : ckE 12 12 0 p = 0
    · have HO : Hid (shapA l = .ok (listB [cntL p])) := Lib.hid (by rw [HA.out, shapO, if_pos hc])
      have hx := divI_bd (ck_shp hc) p.length
      have HC := Lib.hid (tabCount_any p m ad cp w1 (hf1.get 0 rfl) hpm hcp (ck_shp hc))
      have hx : 0 ≤ cntL p ∧ cntL p ≤ 479001600 := hx
      obtain ⟨x, hxe⟩ : ∃ x, cntL p = x := ⟨_, rfl⟩
      rw [hxe] at HC HO hx
      obtain ⟨N, hN⟩ : ∃ N, w1.heap.size = N := ⟨_, rfl⟩
      have HL := Lib.hid (listOne x w1 N hN (by omega) (HT.out.keep HF1.out.bel))
      clear hf1 hpm hc hxe HA HNS HLN
      go_wp2_with fail
      refine HC.out.mono ?_; rintro e w2 ⟨rfl, rfl⟩
      clear HC
      go_wp2_with fail
      refine (must0 _).mono ?_; rintro e w3 ⟨rfl, rfl⟩
      go_wp2_with fail
      refine HL.out.mono ?_; rintro e w4 ⟨rfl, hf4⟩
      have HF4 := Lib.hid (HF1.out.keep hf4.bel)
      clear hf4 HL
      go_wp2_with fail
      go_ret
      exact ⟨HF4.out, .inl ⟨_, HO.out, rfl⟩⟩
    · have HO : Hid (shapA l = .error (ckE 12 12 0 p)) := Lib.hid (by rw [HA.out, shapO, if_neg hc])
      have HC := Lib.hid (tabCountE p m ad cp w1 (hf1.get 0 rfl) hpm (by unfold maxLen; omega) hc)
      have HM := Lib.hid (mustE (ckE 12 12 0 p) hc)
      obtain ⟨x, hxe⟩ : ∃ x, ckE 12 12 0 p = x := ⟨_, rfl⟩
      rw [hxe] at HC HO HM
      clear hf1 hpm hc hxe HA HNS HLN
      go_wp2_with fail
      refine HC.out.mono ?_; rintro e w2 ⟨rfl, rfl⟩
      go_wp2_with fail
      refine (HM.out _).mono ?_; rintro e w3 ⟨rfl, rfl⟩
      go_wp2_with fail
      exact ⟨rfl, HF1.out, .inr ⟨_, HO.out, rfl⟩⟩
  · have HF1 := Lib.hid hf1
    have HO : Hid (shapA l = .error 10) := HA
    clear hf1 HNS HLN
    go_wp2_with fail
    exact ⟨rfl, HF1.out, .inr ⟨10, HO.out, rfl⟩⟩
set_option maxRecDepth 100000 in
set_option maxHeartbeats 8000000 in
theorem askNest (wd : ByteArray) (hw : wd.toList = [110, 101, 115, 116]) (l : List ByteArray) (a : Option Addr) (cap : Nat) (w : World) (h : Sa w a (strV l)) (hn : l.length = 2) (hl : ∀ s ∈ l, s.size ≤ maxLen) :
    Calls Tryd.prog 22 #[.string wd, .slice a 2 cap] w (AskSaid (nestA l) w) := by
  have hn2 := Lib.hid hn
  have HNS := Lib.hid (deskNums l 2 a cap w h hn (by omega) hl)
  have HLN := Lib.hid (fun p (hp : numsB l = some p) => numsB_bd hp)
  obtain ⟨R, hR⟩ : ∃ R, numsB l = R := ⟨_, rfl⟩
  have HA : Hid (nestA l = nestO R) := Lib.hid (by unfold nestA; rw [hR])
  rw [hR] at HNS HLN
  have g2 : ((2 : Int) == 2) = true := rfl
  clear h hn hl hR
  go_enter Tryd.func22, Tryd.ntmps22
  go_wp2_with fail
  refine HNS.out.mono ?_
  rintro e w1 (⟨p, ad, m, cp, rfl, rfl, hpm, hcp, hf1⟩ | ⟨rfl, rfl, hf1⟩)
  · have HB := Lib.hid (HLN.out p rfl)
    have hp2 : p.length = 2 ∨ p.length ≠ 2 := by omega
    rcases hp2 with hp2 | hp2
    · obtain ⟨x, y, rfl⟩ := two_of hp2
      obtain rfl : m = 2 := by rw [← hpm]; rfl
      have hbx := HB.out.2 x (by simp)
      have hby := HB.out.2 y (by simp)
      obtain ⟨nn, rfl⟩ : ∃ nn : Nat, x = nn := ⟨x.toNat, by omega⟩
      obtain ⟨kk, rfl⟩ : ∃ kk : Nat, y = kk := ⟨y.toNat, by omega⟩
      have hk6 : kk ≤ 999999 := by omega
      obtain ⟨G, rfl, -, -, hcl, -⟩ := hf1.open (by simp [ints])
      have x0 := hcl 0 (by simp [ints])
      have x1 := hcl 1 (by simp [ints])
      simp only [ints, List.map_cons, List.map_nil, List.getElem?_cons_zero, List.getElem?_cons_succ] at x0 x1
      have HF1 := Lib.hid hf1.below.drew
      clear hf1 hcl hpm hp2 hbx hby HB HLN HNS
      by_cases hc : nn ≤ 15 ∧ kk < catN nn
      · have HO : Hid (nestA l = .ok (bs (58 :: atN (2 * nn) 0 kk))) := Lib.hid (by rw [HA.out]; unfold nestO; simp only [Int.toNat_natCast]; rw [if_pos ⟨by omega, by omega⟩])
        have HC : Hid (Calls Tryd.prog 38 #[.int .i64 nn, .int .i64 kk] w1.drew fun e w' => e = .returned (.tuple #[.string (bs (atN (2 * nn) 0 kk)), .int .i64 0]) ∧ Below w1.drew.heap.size w1.drew w') := Lib.hid (nestAt_nat nn kk w1.drew hc.1 hc.2)
        have hz : (bs (atN (2 * nn) 0 kk)).size ≤ 30 := by rw [bs_size, atN_len]; omega
        have HE : Hid ((⟨#[58]⟩ : ByteArray) ++ bs (atN (2 * nn) 0 kk) = bs (58 :: atN (2 * nn) 0 kk)) := Lib.hid (bs_app [58] _)
        obtain ⟨S, hS⟩ : ∃ S, bs (atN (2 * nn) 0 kk) = S := ⟨_, rfl⟩
        rw [hS] at HC hz HE
        clear HA hc hS
        go_wp2_with fail
        go_region_with (first | (go_at_call 38; refine HC.out.mono ?_; rintro e w2 ⟨rfl, hb2⟩; have HF2 := Lib.hid (HF1.out.keep hb2); clear hb2))
        all_goals
          go_wp2_with fail
          refine (must0 _).mono ?_; rintro e w3 ⟨rfl, rfl⟩
          go_wp2_with fail
          go_ret
          exact ⟨HF2.out, .inl ⟨_, HO.out, by rw [← HE.out]; rfl⟩⟩
      · have HO : Hid (nestA l = .error 1) := Lib.hid (by rw [HA.out]; unfold nestO; simp only [Int.toNat_natCast]; rw [if_neg (fun h => hc ⟨by omega, by omega⟩)])
        have HC := Lib.hid (nestAtNo nn kk w1.drew hc hk6)
        clear HA hc
        go_wp2_with fail
        go_region_with (first | (go_at_call 38; refine HC.out.mono ?_; rintro e w2 ⟨rfl, hb2⟩; have HF2 := Lib.hid (HF1.out.keep hb2); clear hb2))
        all_goals
          go_wp2_with fail
          refine (mustE 1 (by decide) _).mono ?_; rintro e w3 ⟨rfl, rfl⟩
          go_wp2_with fail
          exact ⟨rfl, HF2.out, .inr ⟨_, HO.out, rfl⟩⟩
    · exfalso
      have := HB.out.1
      rw [hn2.out] at this
      exact hp2 this
  · have HF1 := Lib.hid hf1
    have HO : Hid (nestA l = .error 10) := HA
    clear hf1 HNS HLN
    go_wp2_with fail
    exact ⟨rfl, HF1.out, .inr ⟨10, HO.out, rfl⟩⟩
set_option maxRecDepth 100000 in
set_option maxHeartbeats 8000000 in
theorem askNone (wd : ByteArray) (n : Nat) (a : Option Addr) (cap : Nat) (w : World)
    (h1 : wd.toList ≠ [114, 97, 110, 107]) (h2 : wd.toList = [111, 114, 100, 101, 114] → n ≠ 2) (h3 : wd.toList ≠ [116, 117, 114, 110, 101, 100]) (h4 : wd.toList ≠ [115, 104, 97, 112, 101, 115]) (h5 : wd.toList = [110, 101, 115, 116] → n ≠ 2) (h6 : wd.toList = [115, 117, 109] → n ≠ 4) :
    Calls Tryd.prog 22 #[.string wd, .slice a n cap] w (AskSaid (.error 10) w) := by
  have HF := Lib.hid (Fr.start w)
  have g1 : (wd.toList == [114, 97, 110, 107]) = false := by rw [beq_eq_false_iff_ne]; exact h1
  have g3 : (wd.toList == [116, 117, 114, 110, 101, 100]) = false := by rw [beq_eq_false_iff_ne]; exact h3
  have g4 : (wd.toList == [115, 104, 97, 112, 101, 115]) = false := by rw [beq_eq_false_iff_ne]; exact h4
  by_cases e2 : wd.toList = [111, 114, 100, 101, 114]
  · have k2 : ((n : Int) == 2) = false := by rw [beq_eq_false_iff_ne]; have := h2 e2; omega
    clear h2 h5 h6 g1 g3 g4 h1 h3 h4
    go_enter Tryd.func22, Tryd.ntmps22
    go_wp2_with fail
    refine (mustE 10 (by decide) _).mono ?_; rintro e w3 ⟨rfl, rfl⟩
    go_wp2_with fail
    exact ⟨rfl, HF.out, .inr ⟨_, rfl, rfl⟩⟩
  · have g2 : (wd.toList == [111, 114, 100, 101, 114]) = false := by rw [beq_eq_false_iff_ne]; exact e2
    by_cases e5 : wd.toList = [110, 101, 115, 116]
    · have k2 : ((n : Int) == 2) = false := by rw [beq_eq_false_iff_ne]; have := h5 e5; omega
      clear h2 h5 h6 g1 g3 g4 h1 h3 h4 g2 e2
      go_enter Tryd.func22, Tryd.ntmps22
      go_wp2_with fail
      refine (mustE 10 (by decide) _).mono ?_; rintro e w3 ⟨rfl, rfl⟩
      go_wp2_with fail
      exact ⟨rfl, HF.out, .inr ⟨_, rfl, rfl⟩⟩
    · have g5 : (wd.toList == [110, 101, 115, 116]) = false := by rw [beq_eq_false_iff_ne]; exact e5
      by_cases e6 : wd.toList = [115, 117, 109]
      · have k2 : ((n : Int) == 4) = false := by rw [beq_eq_false_iff_ne]; have := h6 e6; omega
        clear h2 h5 h6 g1 g3 g4 h1 h3 h4 g2 e2 g5 e5
        go_enter Tryd.func22, Tryd.ntmps22
        go_wp2_with fail
        refine (mustE 10 (by decide) _).mono ?_; rintro e w3 ⟨rfl, rfl⟩
        go_wp2_with fail
        exact ⟨rfl, HF.out, .inr ⟨_, rfl, rfl⟩⟩
      · have g6 : (wd.toList == [115, 117, 109]) = false := by rw [beq_eq_false_iff_ne]; exact e6
        clear h2 h5 h6
        go_enter Tryd.func22, Tryd.ntmps22
        go_wp2_with fail
        refine (mustE 10 (by decide) _).mono ?_; rintro e w3 ⟨rfl, rfl⟩
        go_wp2_with fail
        exact ⟨rfl, HF.out, .inr ⟨_, rfl, rfl⟩⟩
end Go.Proofs.YtbolgfiafbhicaaDoor
