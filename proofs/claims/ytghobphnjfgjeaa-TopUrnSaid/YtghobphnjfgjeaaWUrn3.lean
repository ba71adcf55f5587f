/- The walk of the law UrnOrder. -/
import Derived.Test.YtghobphnjfgjeaaWUrn2
import Derived.Test.YtghobphnjfgjeaaSlEq2
namespace Go.Proofs.Ytghobphnjfgjeaa
open Go.RowKit

/-! UrnOrder -/
theorem aft_valid (m : Int) (h0 : 0 ≤ m) (n : Nat) : ∀ (ds h : List Int), h.length = n → (∀ x ∈ h, 0 ≤ x) → Val n ds →
    aftN m h ds = if ds.any (fun k => decide (nth h k.toNat = 0)) = true then ([], 4) else (hav m h ds, 0)
  | [], h, _, _, _ => by simp [aftN, hav]
  | k :: ds, h, hl, hp, hv => by
    obtain ⟨v1, v2, hk⟩ := hv.head
    rw [aftN, hl, if_neg (by omega), List.any_cons]
    by_cases hz : nth h k.toNat = 0
    · rw [if_pos hz]; simp [hz]
    · have hx := hp _ (nth_mem h k.toNat (by omega))
      rw [if_neg hz, aft_valid m h0 n ds _ (by rw [List.length_set, hl]) (fun x hx' => by
        rcases List.mem_or_eq_of_mem_set hx' with h1 | rfl
        · exact hp x h1
        · omega) hv.tail]
      have e : (fun j : Int => decide (nth (h.set k.toNat (nth h k.toNat + m)) j.toNat = 0)) = fun j : Int => decide (nth h j.toNat = 0) := by
        funext j
        rw [nth_set _ _ _ _ (by omega)]
        split
        · rename_i e; rw [e]; rw [decide_eq_false hz, decide_eq_false (by omega)]
        · rfl
      rw [e, decide_eq_false hz, Bool.false_or, hav]
theorem hav_perm (m : Int) (n : Nat) {d e : List Int} (p : d.Perm e) : ∀ h : List Int, h.length = n → Val n d → hav m h d = hav m h e := by
  induction p with
  | nil => intros; rfl
  | cons x _ ih => intro h hl hv; rw [hav, hav, ih _ (by rw [List.length_set, hl]) hv.tail]
  | swap x y l =>
    intro h hl hv
    have ha := hv.head.2.2
    have hb := hv.tail.head.2.2
    rw [hav, hav, hav, hav]
    by_cases hab : y.toNat = x.toNat
    · rw [hab]
    · rw [set_more_comm h y.toNat x.toNat m hab (by omega) (by omega)]
  | trans p1 p2 ih1 ih2 => intro h hl hv; rw [ih1 h hl hv, ih2 h hl (fun k hk => hv k (p1.mem_iff.2 hk))]
theorem Val.perm {n : Nat} {d e : List Int} (p : d.Perm e) (h : Val n d) : Val n e := fun k hk => h k (p.mem_iff.2 hk)
theorem aftL_perm {l : List Int} {n : Nat} {more : Int} {d e : List Int} (p : d.Perm e) (hc : urnChk l more = 0) (hu : UOk l n 12) (h0 : 0 ≤ more) (hv : Val n d) : aftL l more d = aftL l more e := by
  unfold aftL
  have hc0 : ¬ urnChk l more ≠ 0 := by omega
  rw [if_neg hc0, if_neg hc0, p.length_eq]
  split
  · rfl
  · have hp := fun x hx => (hu.bd x hx).1
    rw [aft_valid more h0 n d l hu.len hp hv, aft_valid more h0 n e l hu.len hp (hv.perm p), hav_perm more n p l hu.len hv]
    have : d.any (fun k => decide (nth l k.toNat = 0)) = e.any (fun k => decide (nth l k.toNat = 0)) := by
      rw [Bool.eq_iff_iff, List.any_eq_true, List.any_eq_true]
      exact ⟨fun ⟨x, h1, h2⟩ => ⟨x, p.mem_iff.1 h1, h2⟩, fun ⟨x, h1, h2⟩ => ⟨x, p.mem_iff.2 h1, h2⟩⟩
    rw [this]
theorem aftL_len {l : List Int} {n : Nat} {more : Int} {d : List Int} (hc : urnChk l more = 0) (hu : UOk l n 12) (h0 : 0 ≤ more) (h12 : more ≤ 12) (hv : Val n d) : (aftL l more d).1.length ≤ 5 := by
  unfold aftL
  rw [if_neg (by omega)]
  split
  · simp
  · rw [aft_valid more h0 n d l hu.len (fun x hx => (hu.bd x hx).1) hv]
    split
    · simp
    · simp only
      rw [(hav_ok more h0 h12 n d l 12 hu hv).len]; exact hu.n5
def swL (l : List Int) (i k : Nat) : List Int := (l.set i (nth l k)).set k (nth l i)
theorem swL_perm (l : List Int) (i k : Nat) (hi : i < l.length) (hk : k < l.length) : l.Perm (swL l i k) := by
  have := List.set_set_perm hi hk
  unfold swL nth
  rw [List.getD_eq_getElem?_getD, List.getD_eq_getElem?_getD, List.getElem?_eq_getElem hi, List.getElem?_eq_getElem hk]
  exact this.symm
/-- what is as often in one order is as often in the other, or too large to say -/
theorem urnL_perm {l : List Int} {n : Nat} {more : Int} {d e : List Int} (p : d.Perm e) (hc : urnChk l more = 0) (hu : UOk l n 12) (h0 : 0 ≤ more) (h12 : more ≤ 12) (hv : Val n d) (h5 : d.length ≤ 12) (X Y : Int) (hX : urnL l more d = (X, Y, 0)) :
    urnL l more e = (X, Y, 0) ∨ urnL l more e = (0, 0, 2) := by
  have hl := p.length_eq
  unfold urnL at hX ⊢
  rw [if_neg (by omega), if_neg (by omega)] at hX ⊢
  have r11 : Rat1 1 1 := by unfold Rat1; decide
  have s1 := (chn_said more h0 h12 n d l 12 1 1 (by omega) (by omega) hu r11).2.2.1 (by rw [hX])
  obtain ⟨t1, -, t3, t4⟩ := chn_said more h0 h12 n e l 12 1 1 (by omega) (by omega) hu r11
  rw [hX, exN_perm more n p l hu.len hv, exD_pow more n d l hu.len hv, hl, ← exD_pow more n e l hu.len (hv.perm p)] at s1
  have dp := exD_pos more h0 e l hu.pos
  generalize chn more l e 1 1 = c at *
  obtain ⟨X', Y', er⟩ := c
  simp only [Int.one_mul] at s1 t1 t3 t4
  rcases t1 (hv.perm p) with rfl | rfl
  · obtain ⟨u1, u2⟩ := t3 rfl
    obtain ⟨s1, s2⟩ := s1
    have e1 := red_self s1
    have e2 := red_eq (by have := s1.1; omega) dp s2
    have e3 := red_self u1
    have e4 := red_eq (by have := u1.1; omega) dp u2
    refine .inl ?_
    have q1 : X' = X := by rw [← e1.1, ← e3.1, e2.1, e4.1]
    have q2 : Y' = Y := by rw [← e1.2, ← e3.2, e2.2, e4.2]
    rw [q1, q2]
  · obtain ⟨rfl, rfl⟩ := t4 (by omega)
    exact .inr rfl

set_option maxRecDepth 100000 in
set_option maxHeartbeats 4000000 in
theorem urnOrder_any (l : List Int) (n : Nat) (a : Option Addr) (ca : Nat) (more : Int) (l2 : List Int) (n2 : Nat) (b : Option Addr) (cb : Nat) (i0 k0 : Int) (w : World) (h : Sa w a (ints l)) (hn : l.length = n) (_hm : n ≤ maxLen)
    (h' : Sa w b (ints l2)) (hn2 : l2.length = n2) (hc2 : n2 ≤ cb) (hm2 : n2 ≤ maxLen) :
    Calls Try.prog 9 #[.slice a n ca, .int .i64 more, .slice b n2 cb, .int .i64 i0, .int .i64 k0] w fun e w' => e = .returned (.bool true) ∧ Below w.heap.size w w' := by
  unfold maxLen at hm2
  obtain ⟨m, m1, m2, m3⟩ : ∃ m : Nat, m ≤ n2 ∧ (m : Int) ≤ 5 ∧ (m = n2 ∨ (m : Int) = 5) := ⟨min n2 5, by omega, by omega, by omega⟩
  have HMIN := Lib.hid (run_min2 #[3, 3] 3 n2 5 m m1 m2 m3)
  have b1 : (m : Int) ≤ (cb : Int) := by omega
  have HN := Lib.hid hn; have HS := Lib.hid h
  obtain ⟨ds, hds⟩ : ∃ ds, l2.take m = ds := ⟨_, rfl⟩
  have HDS : Hid (Sa w b (ints ds)) := Lib.hid (by have := h'.take m; rw [ints_take, hds] at this; exact this)
  have HDL : Hid (ds.length = m) := Lib.hid (by rw [← hds, List.length_take]; omega)
  clear h h' hds hn2 m3 hc2
  obtain ⟨X, Y, er, hU⟩ : ∃ X Y er, urnL l more ds = (X, Y, er) := ⟨_, _, _, rfl⟩
  have HU := Lib.hid hU
  by_cases he : er ≠ 0 ∨ m = 0
  · have z : er ≠ 0 ∨ er = 0 ∧ m = 0 := by omega
    clear hU hn he
    go_enter Try.func9, Try.ntmps9
    go_wp2_with fail
    refine (urns_any _).mono ?_; rintro e w1 ⟨rfl, hb⟩
    have F1 := (Fr.start w).keep hb
    clear hb
    have hmin := HMIN.out
    go_wp2_with fail
    clear hmin
    refine (urnChance l n _ _ more ds m _ _ _ (F1.old HS.out) HN.out (F1.old HDS.out) HDL.out).mono ?_; rintro e w3 ⟨rfl, hb⟩
    rw [HU.out]
    have F2 := (F1.keep hb).rat X Y
    clear F1 hb
    rcases z with z | ⟨rfl, rfl⟩
    · have z : (er != 0) = true := bne_iff_ne.2 z
      go_wp2_with fail
      go_ret
      exact ⟨rfl, F2.bel⟩
    · go_wp2_with fail
      go_ret
      exact ⟨rfl, F2.bel⟩
  · obtain rfl : er = 0 := by omega
    have mp : 0 < m := by omega
    obtain ⟨hc, ok, mo1, mo2, hv⟩ := urnL_good (by rw [HDL.out]; omega) (show (urnL l more ds).2.2 = 0 by rw [hU])
    rw [hn] at ok hv
    have n1 := ok.n1
    have n5 := ok.n5
    have zm : ((m : Int) == 0) = false := beq_eq_false_iff_ne.2 (by omega)
    obtain ⟨I, hI, hIm⟩ : ∃ I : Nat, i0 % (m : Int) = I ∧ I < m := ⟨(i0 % (m : Int)).toNat, by have := Int.emod_nonneg i0 (b := (m : Int)) (by omega); omega, by have := Int.emod_nonneg i0 (b := (m : Int)) (by omega); have := Int.emod_lt_of_pos i0 (b := (m : Int)) (by omega); omega⟩
    obtain ⟨K, hK, hKm⟩ : ∃ K : Nat, k0 % (m : Int) = K ∧ K < m := ⟨(k0 % (m : Int)).toNat, by have := Int.emod_nonneg k0 (b := (m : Int)) (by omega); omega, by have := Int.emod_nonneg k0 (b := (m : Int)) (by omega); have := Int.emod_lt_of_pos k0 (b := (m : Int)) (by omega); omega⟩
    have HI := Lib.hid hI; have HK := Lib.hid hK
    have pm := swL_perm ds I K (by rw [HDL.out]; omega) (by rw [HDL.out]; omega)
    have UP := Lib.hid (urnL_perm pm hc ok mo1 mo2 hv (by rw [HDL.out]; omega) X Y hU)
    have AP := aftL_perm pm hc ok mo1 hv
    have AL := aftL_len hc ok mo1 mo2 hv
    obtain ⟨p, g, hA⟩ : ∃ p g, aftL l more ds = (p, g) := ⟨_, _, rfl⟩
    rw [hA] at AP AL
    have HA := Lib.hid hA
    have HA2 := Lib.hid AP.symm
    have HAL := Lib.hid AL
    have HSW : Hid ((ds.set I (nth ds K)).set K (nth ds I) = swL ds I K) := Lib.hid rfl
    have HSL : Hid ((swL ds I K).length = m) := Lib.hid (by rw [← pm.length_eq, HDL.out])
    clear hU hn he hc ok hv hI hK pm AP AL hA
    go_enter Try.func9, Try.ntmps9
    go_wp2_with fail
    refine (urns_any _).mono ?_; rintro e w1 ⟨rfl, hb⟩
    have F1 := (Fr.start w).keep hb
    clear hb
    have hmin := HMIN.out
    go_wp2_with fail
    clear hmin
    refine (urnChance l n _ _ more ds m _ _ _ (F1.old HS.out) HN.out (F1.old HDS.out) HDL.out).mono ?_; rintro e w3 ⟨rfl, hb⟩
    rw [HU.out]
    have F2 := (F1.keep hb).rat X Y
    clear F1 hb
    go_wp2_with fail
    refine (within_any _ _ _ (by omega) (by omega)).mono ?_; rintro e w' ⟨rfl, rfl⟩
    rw [HI.out]
    go_wp2_with fail
    refine (within_any _ _ _ (by omega) (by omega)).mono ?_; rintro e w' ⟨rfl, rfl⟩
    rw [HK.out]
    go_wp2_with fail
    refine (slClone ds m _ _ _ (F2.old HDS.out) HDL.out (by omega)).mono ?_; rintro e w4 ⟨ad3, cp3, rfl, hc3, hf⟩
    have F4 := F2.call hf
    clear F2 hf
    obtain ⟨g3, rfl, hg3⟩ := F4.open (by rw [ints_len, HDL.out]; omega)
    obtain ⟨_, e, _, c1, f1⟩ := F4.openI I (by rw [HDL.out]; omega)
    cases e
    obtain ⟨_, e, _, c2, f2⟩ := F4.openI K (by rw [HDL.out]; omega)
    cases e
    have F5 := (F4.setInt I (nth ds K))
    obtain ⟨_, e, _, c3, f3⟩ := F5.openI K (by rw [List.length_set, HDL.out]; omega)
    cases e
    obtain ⟨v, hv⟩ : ∃ v, nth (ds.set I (nth ds K)) K = v := ⟨_, rfl⟩
    rw [hv] at c3
    have F6 := (F5.setInt K (nth ds I)).drew
    rw [HSW.out] at F6
    obtain ⟨x, hx⟩ : ∃ x, nth ds I = x := ⟨_, rfl⟩
    obtain ⟨y, hy⟩ : ∃ y, nth ds K = y := ⟨_, rfl⟩
    rw [hx] at c1 F6
    rw [hy] at c2 F6 c3 f3
    have F7 := Lib.hid F6
    clear hx hy F5 F6 hv
    have d1 : (0 : Int) ≤ (I : Int) := by omega
    have d2 : (I : Int) < (m : Int) := by omega
    have d3 : (0 : Int) ≤ (K : Int) := by omega
    have d4 : (K : Int) < (m : Int) := by omega
    go_wp2_with fail
    go_region
    go_wp2_with fail
    have hgg : (g == g) = true := beq_self_eq_true _
    refine (urnChance l n _ _ more (swL ds I K) m _ _ _ (F7.out.old HS.out) HN.out (F7.out.get 0 rfl) HSL.out).mono ?_; rintro e w5 ⟨rfl, hb⟩
    have F8 := F7.out.keep hb
    clear hb F4 c1 c2 c3 f1 f2 f3 hg3
    rcases UP.out with up | up
    · rw [up]
      have F9 := F8.rat X Y
      clear F8 up
      go_wp2_with fail
      refine (urnAfter l n _ _ more ds m _ _ _ (F9.old HS.out) HN.out (F9.old HDS.out) HDL.out).mono ?_; rintro e w6 ⟨ad5, k5, cp5, rfl, hl5, hf⟩
      rw [HA.out] at hl5 hf ⊢
      have F10 := F9.call hf
      clear F9 hf
      go_wp2_with fail
      refine (urnAfter l n _ _ more (swL ds I K) m _ _ _ (F10.old HS.out) HN.out (F10.get 2 rfl) HSL.out).mono ?_; rintro e w7 ⟨ad6, k6, cp6, rfl, hl6, hf⟩
      rw [HA2.out] at hl6 hf ⊢
      have F11 := F10.call hf
      obtain ⟨e0, e1, e2, -⟩ := F11.ratAt 2 rfl
      obtain ⟨g0, g1, g2, -⟩ := F11.ratAt 4 rfl
      have hl7 := HAL.out
      clear F10 hf
      go_wp2_with fail
      refine (slEqual p p k5 k6 _ _ _ _ _ (F11.get 1 rfl) (F11.get 0 rfl) hl5 hl6 (by omega) (by omega)).mono ?_; rintro e w8 ⟨rfl, hf⟩
      have F12 := F11.call hf
      clear F11 hf
      go_wp2_with fail
      go_ret
      exact ⟨by simp, F12.bel⟩
    · rw [up]
      have F9 := F8.rat 0 0
      clear F8 up
      go_wp2_with fail
      refine (urnAfter l n _ _ more ds m _ _ _ (F9.old HS.out) HN.out (F9.old HDS.out) HDL.out).mono ?_; rintro e w6 ⟨ad5, k5, cp5, rfl, hl5, hf⟩
      rw [HA.out] at hl5 hf ⊢
      have F10 := F9.call hf
      clear F9 hf
      go_wp2_with fail
      refine (urnAfter l n _ _ more (swL ds I K) m _ _ _ (F10.old HS.out) HN.out (F10.get 2 rfl) HSL.out).mono ?_; rintro e w7 ⟨ad6, k6, cp6, rfl, hl6, hf⟩
      rw [HA2.out] at hl6 hf ⊢
      have F11 := F10.call hf
      have hl7 := HAL.out
      clear F10 hf
      go_wp2_with fail
      refine (slEqual p p k5 k6 _ _ _ _ _ (F11.get 1 rfl) (F11.get 0 rfl) hl5 hl6 (by omega) (by omega)).mono ?_; rintro e w8 ⟨rfl, hf⟩
      have F12 := F11.call hf
      clear F11 hf
      go_wp2_with fail
      go_ret
      exact ⟨by simp, F12.bel⟩
end Go.Proofs.Ytghobphnjfgjeaa
