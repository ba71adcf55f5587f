/- The walk of the law WarpBound. -/
import Derived.Test.YtgblmbhbbjgdiaaWWar1
namespace Go.Proofs.Ytgblmbhbbjgdiaa
open Go.RowKit

theorem chkR_yes (l : List Rn) (h : ∀ i, i < l.length → 1 ≤ (rnA l i).sh ∧ (rnA l i).sh ≤ 10 ∧ 0 ≤ (rnA l i).wa ∧ (rnA l i).wa ≤ 100000) : ∀ k, k ≤ l.length → chkR l k = 0
  | 0, _ => rfl
  | k + 1, hk => by
    have := h k (by omega)
    rw [chkR, if_neg (by rw [chkR_yes l h k (by omega)]; simp), if_neg]
    unfold badR
    simp only [Bool.or_eq_true, decide_eq_true_eq]
    omega
theorem chkW_nil (l : List Rn) (n : Nat) (hn : l.length = n) (n8 : n ≤ 8) (h : ∀ i, i < n → 1 ≤ (rnA l i).sh ∧ (rnA l i).sh ≤ 10 ∧ 0 ≤ (rnA l i).wa ∧ (rnA l i).wa ≤ 100000) : chkW l [] = 0 := by
  subst hn
  have h2 := chkR_yes l h l.length (Nat.le_refl _)
  unfold chkW
  rw [if_neg (by simp; omega), if_neg (by omega)]
  rfl
theorem set_wa (L : List Rn) (j : Nat) (r : Rn) (hj : j < L.length) (hr : rnA L j = r) (p : Int) : (ths L).set (j * 4 + 1) (.int .i64 p) = ths (L.set j { r with wa := p }) := flat_set thC 4 (fun _ => rfl) rn0 _ _ L j 1 hj (by omega) (by show (thC (rnA L j)).set 1 _ = _; rw [hr]; rfl)
theorem set_ah4 (L : List Rn) (j : Nat) (r : Rn) (hj : j < L.length) (hr : rnA L j = r) (b : Bool) : (ths L).set (j * 4 + 3) (.bool b) = ths (L.set j { r with ah := b }) := flat_set thC 4 (fun _ => rfl) rn0 _ _ L j 3 hj (by omega) (by show (thC (rnA L j)).set 3 _ = _; rw [hr]; rfl)
/-- threads that Check takes, all there -/
structure ThOk (L : List Rn) (k : Nat) : Prop where
  len : L.length = k
  ok : ∀ i, i < k → 1 ≤ (rnA L i).sh ∧ (rnA L i).sh ≤ 10 ∧ 0 ≤ (rnA L i).wa ∧ (rnA L i).wa ≤ 100000
  th : ∀ i, i < k → (rnA L i).th = true
theorem ThOk.of (z : List Int) (k : Nat) (h : z.length = k) : ThOk (thrL z) k := by
  have key : ∀ i, i < k → rnA (thrL z) i = ⟨1 + nth z i % 10, 0, true, false, 0⟩ := fun i hi => thrL_at z i (by omega)
  refine ⟨by simp [thrL, h], fun i hi => ?_, fun i hi => by rw [key i hi]⟩
  rw [key i hi]
  have r1 := Int.emod_nonneg (nth z i) (b := 10) (by omega)
  have r2 := Int.emod_lt_of_pos (nth z i) (b := 10) (by omega)
  simp only; omega
theorem ThOk.put {L : List Rn} {k : Nat} (h : ThOk L k) (j : Nat) (hj : j < k) (p : Int) (b : Bool) (h1 : 0 ≤ p) (h2 : p ≤ 100000) : ThOk (L.set j { rnA L j with wa := p, ah := b }) k := by
  refine ⟨by rw [List.length_set, h.len], fun i hi => ?_, fun i hi => ?_⟩
  · rw [rnA_set _ _ _ _ (by rw [h.len]; exact hj)]
    have := h.ok j hj
    split
    · exact ⟨this.1, this.2.1, h1, h2⟩
    · exact h.ok i hi
  · rw [rnA_set _ _ _ _ (by rw [h.len]; exact hj)]
    split
    · exact h.th j hj
    · exact h.th i hi

set_option maxRecDepth 100000 in
set_option maxHeartbeats 8000000 in
theorem warpBound_any (z y : List Int) (n m : Nat) (a b : Option Addr) (ca cb : Nat) (u : Int) (w : World) (h : Sa w a (ints z)) (hn : z.length = n) (hc : n ≤ ca) (h' : Sa w b (ints y)) (hm : y.length = m) :
    Calls Try.prog 7 #[.slice a n ca, .slice b m cb, .int .i64 u] w fun e w' => e = .returned (.bool true) ∧ Below w.heap.size w w' := by
  have HN := Lib.hid hn; have HM := Lib.hid hm; have HS := Lib.hid h; have HS' := Lib.hid h'
  clear h h' hn hm
  go_enter Try.func7, Try.ntmps7
  go_wp2_with fail
  refine (warps_any _).mono ?_; rintro e w1 ⟨rfl, hb⟩
  have HF1 := Lib.hid ((Fr.start w).keep hb)
  clear hb
  go_wp2_with fail
  refine (threads_any z n _ _ _ (HF1.out.old HS.out) HN.out hc).mono ?_; rintro e w2 ⟨ad, k, cp, rfl, hkn, _, k8, hcp, hfb⟩
  have hzl : (z.take k).length = k := by rw [List.length_take, HN.out]; omega
  have HT := Lib.hid (ThOk.of (z.take k) k hzl)
  obtain ⟨L0, hL0⟩ : ∃ L0, thrL (z.take k) = L0 := ⟨_, rfl⟩
  rw [hL0] at hfb HT
  have HB := Lib.hid hfb
  have HB12 := Lib.hid (HF1.out.keep hfb.bel).bel
  clear hfb hzl hL0
  go_wp2_with fail
  go_loopw [21] (fun i wr => ∃ (j : Nat) (L : List Rn), j ≤ k ∧ i = .int .i64 j ∧ Hid (ThOk L k) ∧ Hid (FB w1 wr 51 ad (ths L) [])) (fun i _ => k - (intOf i).toNat)
  case atStart => exact ⟨0, L0, by omega, rfl, HT, HB⟩
  case round =>
    clear HT HB HB12
    obtain ⟨j, L, hj, rfl, HT, HB⟩ := hrel
    by_cases hlt : j < k
    · by_cases hjm : j < m
      · have hjL : j < L.length := by rw [HT.out.len]; exact hlt
        have h0 : 0 < (ths L).length := by rw [ths_len]; omega
        obtain ⟨g, rfl, hg, hgl, hcs, hfz⟩ := HB.out.open h0
        have g1 : decide ((j : Int) < (m : Int)) = true := decide_eq_true (by omega)
        have g1' : decide (j < m) = true := decide_eq_true (by omega)
        obtain ⟨b', off, rfl, hb, cy⟩ := ((HF1.out.keep HB.out.bel).old HS'.out).int j (by rw [HM.out]; exact hjm)
        obtain ⟨v, hv⟩ : ∃ v, nth y j = v := ⟨_, rfl⟩
        rw [hv] at cy
        have c1 := hcs (j * 4 + 1) (by rw [ths_len]; omega)
        have c3 := hcs (j * 4 + 3) (by rw [ths_len]; omega)
        rw [ths_get L j 1 hjL (by omega)] at c1
        rw [ths_get L j 3 hjL (by omega)] at c3
        replace c1 : _ = some (Value.int .i64 (rnA L j).wa) := c1
        replace c3 : _ = some (Value.bool (rnA L j).ah) := c3
        obtain ⟨wa, hwa⟩ : ∃ wa, (rnA L j).wa = wa := ⟨_, rfl⟩
        obtain ⟨ah, hah⟩ : ∃ ah, (rnA L j).ah = ah := ⟨_, rfl⟩
        rw [hwa] at c1
        rw [hah] at c3
        clear hwa hah
        have f1 := hfz (j * 4 + 1)
        have f3 := hfz (j * 4 + 3)
        have r1 := Int.emod_nonneg v (b := 9000) (by omega)
        have r2 := Int.emod_lt_of_pos v (b := 9000) (by omega)
        have i1 : (0 : Int) ≤ (j : Int) := by omega
        have i2 : (j : Int) < (k : Int) := by omega
        have i3 : (j : Int) < (m : Int) := by omega
        have HL := Lib.hid hjL
        clear hcs hfz hv hjL
        go_wp2_with fail
        go_region_with (first | (go_at_call 14; refine (within_any _ _ _ (by omega) (by omega)).mono ?_; rintro e w' ⟨rfl, rfl⟩))
        all_goals
          have F3 := (HB.out.set h0 (j * 4 + 1) (.int .i64 (v % 9000)))
          rw [set_wa L j _ HL.out rfl] at F3
          have F4 := F3.set (by rw [ths_len, List.length_set]; have := HL.out; omega) (j * 4 + 3) (.bool (v.tmod 2 == 0))
          rw [set_ah4 _ j _ (by rw [List.length_set]; exact HL.out) rfl, rnA_set _ _ _ _ HL.out, if_pos rfl, List.set_set] at F4
          have HF5 := Lib.hid F4.drew
          have HT5 := Lib.hid (HT.out.put j hlt (v % 9000) (v.tmod 2 == 0) r1 (by omega))
          clear F3 F4 c1 c3 f1 f3 cy
          go_wp2_with fail
          exact ⟨⟨j + 1, _, by omega, by simp, HT5, HF5⟩, by simp only [intOf]; omega⟩
      · have g1 : decide ((j : Int) < (m : Int)) = false := decide_eq_false (by omega)
        have g1' : decide (j < m) = false := decide_eq_false (by omega)
        go_wp2_with fail
        exact ⟨⟨j + 1, L, by omega, by simp, HT, HB⟩, by simp only [intOf]; omega⟩
    · obtain rfl : j = k := by omega
      have r1 := Int.emod_nonneg u (b := 201) (by omega)
      have r2 := Int.emod_lt_of_pos u (b := 201) (by omega)
      obtain ⟨x, hx⟩ : ∃ x : Nat, u % 201 = x := ⟨(u % 201).toNat, by omega⟩
      have HX := Lib.hid hx
      have hx2 : x ≤ 200 := by omega
      have hck := chkW_nil L j HT.out.len k8 HT.out.ok
      have hok := chkW_ok hck
      rw [HT.out.len] at hok
      have hbnd := bound_at hok HT.out.th x
      have hse := (hok.st x).1
      have HC := Lib.hid hck; have HBD := Lib.hid hbnd; have HSE := Lib.hid hse
      clear hx hck hok hbnd hse r1 r2
      go_wp2_with (go_at_call 14; refine (within_any _ _ _ (by omega) (by omega)).mono ?_; rintro e w' ⟨rfl, rfl⟩; rw [HX.out])
      refine (warPlay_yes L [] j 0 x _ _ _ _ _ HB.out.sa (Sa.nil _ _) HT.out.len rfl (by omega) HC.out hx2).mono ?_; rintro e w4 ⟨rd, rc, ed, ec, rfl, _, _, hf⟩
      have HL4 : Hid (Sa w4 ad (ths L)) := Lib.hid ((HB.out.keep hf.bel).sa)
      have HE4 : Hid (Sa w4 ed (ints (endW (stL L [] x)))) := Lib.hid (hf.get 0 rfl)
      have HB4 : Hid (Below w.heap.size w w4) := Lib.hid (HF1.out.keep (HB.out.keep hf.bel).bel).bel
      have z1 : ((j : Int) != (j : Int)) = false := by simp
      clear hf
      go_wp2_with fail
      clear z1
      go_loopw [68] (fun s68 wr => ∃ i : Nat, i ≤ j ∧ s68 = .int .i64 i ∧ Hid (Below w4.heap.size w4 wr)) (fun s _ => j - (intOf s).toNat)
      case atStart => exact ⟨0, by omega, rfl, Lib.hid (Below.refl _ _)⟩
      case round =>
        obtain ⟨i, hi, rfl, HW⟩ := hrel
        by_cases hlt2 : i < j
        · go_wp2_with fail
          go_loopw [73] (fun s73 wr => ∃ c : Nat, c ≤ j ∧ s73 = .int .i64 c ∧ Hid (Below w4.heap.size w4 wr)) (fun s _ => j - (intOf s).toNat)
          case atStart => exact ⟨0, by omega, rfl, HW⟩
          case round =>
            clear HW
            obtain ⟨c, hc, rfl, HW⟩ := hrel
            by_cases hlt3 : c < j
            · obtain ⟨b', off, e, hb, c0, c1, c2, c3⟩ := (HL4.out.keep HW.out).thA i (by rw [HT.out.len]; exact hlt2)
              have hE : (endW (stL L [] x)).length = j := by rw [endW, List.length_map, HSE.out.len]
              obtain ⟨b2, o2, e2, hb2, ci⟩ := (HE4.out.keep HW.out).int i (by rw [hE]; exact hlt2)
              obtain ⟨b3, o3, e3, hb3, ck⟩ := (HE4.out.keep HW.out).int c (by rw [hE]; exact hlt3)
              have hat : ∀ q, q < j → nth (endW (stL L [] x)) q = (rnA (stL L [] x) q).ps := fun q hq => by
                have : q < (stL L [] x).length := by rw [HSE.out.len]; exact hq
                simp [nth, endW, rnA, this]
              rw [hat i hlt2] at ci
              rw [hat c hlt3] at ck
              have hbd := HBD.out i c hlt2 hlt3
              have p1 := (HSE.out.ok i hlt2).2.2.2.2
              have p2 := (HSE.out.ok c hlt3).2.2.2.2
              have hok := HT.out.ok i hlt2
              obtain ⟨⟨sh, wa, th, ah, ps⟩, hr⟩ : ∃ r, rnA L i = r := ⟨_, rfl⟩
              rw [hr] at c0 c1 c2 c3 hbd hok
              unfold mayW at hbd
              simp only at c0 c1 c2 c3 hbd hok
              obtain ⟨s1, s2, s3, s4⟩ := hok
              obtain ⟨v1, v2, v3⟩ := share_div sh s1 s2
              have v4 : (2520 : Int).tdiv sh = 2520 / sh := Int.tdiv_eq_ediv_of_nonneg (by omega)
              obtain ⟨D, hD⟩ : ∃ D, 2520 / sh = D := ⟨_, rfl⟩
              rw [hD] at v1 v2 v4 hbd
              have v5 : IntKind.i64.wrap ((2520 : Int).tdiv sh) = D := by rw [v4, IntKind.wrap_i64]; omega
              obtain ⟨A, hA⟩ : ∃ A, (rnA (stL L [] x) i).ps = A := ⟨_, rfl⟩
              obtain ⟨C, hC⟩ : ∃ C, (rnA (stL L [] x) c).ps = C := ⟨_, rfl⟩
              rw [hA] at ci hbd p1
              rw [hC] at ck hbd p2
              obtain ⟨p1, p3⟩ := p1
              obtain ⟨p2, p4⟩ := p2
              subst e
              subst e2
              cases e3
              have i1 : (0 : Int) ≤ (i : Int) := by omega
              have i2 : (i : Int) < (j : Int) := by omega
              have i3 : (0 : Int) ≤ (c : Int) := by omega
              have i4 : (c : Int) < (j : Int) := by omega
              clear hr hA hC hat hE v3
              cases ah
              · rw [if_neg (by simp)] at hbd
                have t1 : decide (D < A - C) = false := decide_eq_false (by omega)
                go_wp2_with fail
                go_quiet (fail)
                have HW2 : Hid (Below w4.heap.size w4 (wr.drewN nq)) := Lib.hid (HW.out.trans ⟨rfl, rfl, rfl, Nat.le_refl _, fun _ _ => rfl⟩)
                clear c0 c1 c2 c3 ci ck v4 v5 hD
                go_wp2_with fail
                exact ⟨⟨c + 1, by omega, by simp, HW2⟩, by simp only [intOf]; omega⟩
              · rw [if_pos rfl] at hbd
                have t1 : decide (D + wa < A - C) = false := decide_eq_false (by omega)
                go_wp2_with fail
                go_quiet (fail)
                have HW2 : Hid (Below w4.heap.size w4 (wr.drewN nq)) := Lib.hid (HW.out.trans ⟨rfl, rfl, rfl, Nat.le_refl _, fun _ _ => rfl⟩)
                clear c0 c1 c2 c3 ci ck v4 v5 hD
                go_wp2_with fail
                exact ⟨⟨c + 1, by omega, by simp, HW2⟩, by simp only [intOf]; omega⟩
            · obtain rfl : c = j := by omega
              go_wp2_with fail
              exact ⟨⟨i + 1, by omega, by simp, HW⟩, by simp only [intOf]; omega⟩
        · obtain rfl : i = j := by omega
          go_wp2_with fail
          go_ret
          exact ⟨rfl, kin_trans HB4.out HW.out⟩
theorem warpBound_row (a0 : Option Addr) (len0 cap0 : Nat) (z0 : List Int) (a1 : Option Addr) (len1 cap1 : Nat) (z1 : List Int) (u : Int) (w : World) (w0 : IsRow .i64 w a0 len0 cap0 z0) (w1 : IsRow .i64 w a1 len1 cap1 z1) :
    Calls Try.prog 7 #[.slice a0 len0 cap0, .slice a1 len1 cap1, .int .i64 u] w fun e w' => e = .returned (.bool true) ∧ Below w.heap.size w w' := by
  obtain ⟨h1, h2, _, _⟩ := w0.sa
  obtain ⟨k1, k2, _, _⟩ := w1.sa
  exact warpBound_any _ _ len0 len1 a0 a1 cap0 cap1 u w h1 h2 w0.cap k1 k2
end Go.Proofs.Ytgblmbhbbjgdiaa
