/- Urns: a first look; contract of urn.After. -/
import Derived.Test.YtghobphnjfgjeaaUrn2
namespace Go.Proofs.Ytghobphnjfgjeaa
open Go.RowKit

theorem urns_any (w : World) : Calls Try.prog 25 #[] w fun e w' => e = .returned (.bool true) ∧ Below w.heap.size w w' := by
  have g1 : urnL [1, 1] 1 [0, 0] = (1, 3, 0) := by decide +kernel
  have G1 := Lib.hid g1; clear g1
  go_enter Try.func25, Try.ntmps25
  go_wp2_with fail
  have F1 := (Fr.start w).lit [1, 1] #[.int .i64 1, .int .i64 1] rfl 2 rfl (by omega) 3
  have F2 := F1.lit' [0, 0] #[.int .i64 0, .int .i64 0] rfl 2 rfl (by omega) 3 (w.heap.size + 1) (by simp)
  refine (urnChance [1, 1] 2 _ _ 1 [0, 0] 2 _ _ _ (F2.get 1 rfl) rfl (F2.get 0 rfl) rfl).mono ?_; rintro e w1 ⟨rfl, hb⟩
  rw [G1.out]
  have F3 := (F2.keep hb).rat 1 3
  obtain ⟨c0, c1, c2, -⟩ := F3.ratAt 0 rfl
  go_wp2_with fail
  go_ret
  exact ⟨rfl, F3.bel⟩

/-- what is in the urn after the draws -/
def aftN (more : Int) : List Int → List Int → List Int × Int
  | h, [] => (h, 0)
  | h, k :: ds => if k < 0 ∨ (h.length : Int) ≤ k then ([], 1) else if nth h k.toNat = 0 then ([], 4) else aftN more (h.set k.toNat (nth h k.toNat + more)) ds
def aftL (l : List Int) (more : Int) (ds : List Int) : List Int × Int :=
  if urnChk l more ≠ 0 then ([], urnChk l more) else if 12 < ds.length then ([], 2) else aftN more l ds
def AftSaid (r : List Int × Int) (w : World) (e : Ending) (w' : World) : Prop :=
  ∃ (ad : Option Addr) (k cp : Nat), e = .returned (.tuple #[.slice ad k cp, .int .i64 r.2]) ∧ r.1.length = k ∧ Fr w w' [⟨3, .slice ad k cp, ints r.1⟩]
set_option maxRecDepth 100000 in
set_option maxHeartbeats 4000000 in
theorem urnAfter (l : List Int) (n : Nat) (a : Option Addr) (ca : Nat) (more : Int) (ds : List Int) (m : Nat) (b : Option Addr) (cb : Nat) (w : World)
    (h : Sa w a (ints l)) (hn : l.length = n) (h' : Sa w b (ints ds)) (hm : ds.length = m) :
    Calls Try.prog 30 #[.slice a n ca, .int .i64 more, .slice b m cb] w (AftSaid (aftL l more ds) w) := by
  have HN := Lib.hid hn; have HS := Lib.hid h; have HM := Lib.hid hm; have HS' := Lib.hid h'
  have e2 : aftL l more ds = if urnChk l more ≠ 0 then ([], urnChk l more) else if 12 < m then ([], 2) else aftN more l ds := by rw [← hm]; rfl
  clear h h' hm
  have F0 := Lib.hid ((Fr.start w).nilSlice 3)
  by_cases h0 : urnChk l more ≠ 0
  · rw [if_pos h0] at e2
    have E2 := Lib.hid e2; clear e2
    obtain ⟨er, her⟩ : ∃ er, urnChk l more = er := ⟨_, rfl⟩
    rw [her] at h0 E2
    have HE := Lib.hid her
    have z : (er != 0) = true := bne_iff_ne.2 h0
    clear her h0
    go_enter Try.func30, Try.ntmps30
    go_wp2_with fail
    refine (urnCheck l n _ _ more _ HS.out HN.out).mono ?_; rintro e w' ⟨rfl, rfl⟩
    rw [HE.out]
    go_wp2_with fail
    go_ret2
    exact ⟨none, 0, 0, by rw [E2.out]; rfl, by rw [E2.out]; rfl, by rw [E2.out]; exact F0.out⟩
  · rw [if_neg h0] at e2
    have hc : urnChk l more = 0 := by omega
    have HC := Lib.hid hc
    obtain ⟨ok, mo1, mo2⟩ := urnChk_ok hc
    rw [hn] at ok
    have OK := Lib.hid ok
    have n1 := ok.n1
    have n5 := ok.n5
    obtain ⟨ab, ao, rfl, _⟩ := HS.out (by rw [ints_len, HN.out]; omega)
    clear hc ok h0 hn
    by_cases hm12 : 12 < m
    · rw [if_pos hm12] at e2
      have E2 := Lib.hid e2; clear e2
      go_enter Try.func30, Try.ntmps30
      go_wp2_with fail
      refine (urnCheck l n _ _ more _ HS.out HN.out).mono ?_; rintro e w' ⟨rfl, rfl⟩
      rw [HC.out]
      go_wp2_with fail
      go_ret2
      exact ⟨none, 0, 0, by rw [E2.out]; rfl, by rw [E2.out]; rfl, by rw [E2.out]; exact F0.out⟩
    · rw [if_neg hm12] at e2
      have E2 := Lib.hid e2; clear e2
      have m12 : m ≤ 12 := by omega
      have dm : decide ((12 : Int) < (m : Int)) = false := decide_eq_false (by omega)
      clear hm12
      go_enter Try.func30, Try.ntmps30
      go_wp2_with fail
      refine (urnCheck l n _ _ more _ HS.out HN.out).mono ?_; rintro e w' ⟨rfl, rfl⟩
      rw [HC.out]
      have K1 := (Fr.start w).lit [] #[] rfl 0 rfl (by omega) 3
      go_wp2_with (with_reducible refine at_slot 23 ?_; go_must (refine wpList_copyOf rfl _ _ rfl _ _ n ca l [] rfl K1 rfl (K1.old HS.out) (by rw [ints_len, HN.out]) (fun e => by cases e) (by omega) ?_); intro ad1 cp1 w1 hf1 hz1)
      obtain ⟨g, rfl, -⟩ := hf1.open (by rw [ints_len, HN.out]; omega)
      clear K1 hz1
      go_loopw [26] (fun i wr => ∃ (j : Nat) (hh : List Int), j ≤ m ∧ i = .int .i64 j ∧ Hid (aftN more l ds = aftN more hh (ds.drop j)) ∧ Hid (UOk hh n (12 + 12 * j)) ∧ Fr w wr [⟨3, .slice (some ⟨g, 0, none⟩) n cp1, ints hh⟩]) (fun i _ => m - (intOf i).toNat)
      case atStart => exact ⟨0, l, by omega, rfl, Lib.hid rfl, Lib.hid (by simpa using OK.out), hf1⟩
      case round =>
        obtain ⟨j, hh, hj, rfl, HE, HU, hfr⟩ := hrel
        clear hf1
        by_cases hlt : j < m
        · obtain ⟨b', off, rfl, hb, hc⟩ := (hfr.old HS'.out).int j (by rw [HM.out]; exact hlt)
          have hdr : ds.drop j = nth ds j :: ds.drop (j + 1) := by rw [List.drop_eq_getElem_cons (by rw [HM.out]; exact hlt)]; simp [nth, HM.out, hlt]
          obtain ⟨k, hk⟩ : ∃ k, nth ds j = k := ⟨_, rfl⟩
          rw [hk] at hc hdr
          have HK := Lib.hid hk
          have e3 := HE.out
          rw [hdr, aftN, HU.out.len] at e3
          clear hdr hk
          have FN := Lib.hid (hfr.below.nilSlice 3)
          by_cases hbad : k < 0 ∨ (n : Int) ≤ k
          · rw [if_pos hbad] at e3
            have E3 := Lib.hid e3
            clear e3
            rcases hbad with hbad | hbad
            · have d3 : decide (k < 0) = true := decide_eq_true hbad
              go_wp2_with fail
              go_ret2
              exact ⟨none, 0, 0, by rw [E2.out, E3.out]; rfl, by rw [E2.out, E3.out]; rfl, by rw [E2.out, E3.out]; exact FN.out⟩
            · have d3 : decide (k < 0) = false := decide_eq_false (by omega)
              have d4 : decide ((n : Int) ≤ k) = true := decide_eq_true hbad
              go_wp2_with fail
              go_ret2
              exact ⟨none, 0, 0, by rw [E2.out, E3.out]; rfl, by rw [E2.out, E3.out]; rfl, by rw [E2.out, E3.out]; exact FN.out⟩
          · obtain ⟨K, rfl⟩ : ∃ K : Nat, k = K := ⟨k.toNat, by omega⟩
            have hKn : K < n := by omega
            rw [if_neg hbad, Int.toNat_natCast] at e3
            have d3 : decide ((K : Int) < 0) = false := decide_eq_false (by omega)
            have d4 : decide (n ≤ K) = false := decide_eq_false (by omega)
            clear hbad
            have hxk := HU.out.nth K hKn
            obtain ⟨g', e, _, hck, hzk⟩ := hfr.openI K (by rw [HU.out.len]; exact hKn)
            cases e
            obtain ⟨x, hx⟩ : ∃ x, nth hh K = x := ⟨_, rfl⟩
            have HX := Lib.hid hx
            rw [hx] at hck hxk e3
            obtain ⟨x1, x2⟩ := hxk
            clear hx
            by_cases hx0 : x = 0
            · rw [if_pos hx0] at e3
              have E3 := Lib.hid e3
              subst hx0
              clear e3
              go_wp2_with fail
              go_ret2
              exact ⟨none, 0, 0, by rw [E2.out, E3.out]; rfl, by rw [E2.out, E3.out]; rfl, by rw [E2.out, E3.out]; exact FN.out⟩
            · rw [if_neg hx0] at e3
              have E3 := Lib.hid e3
              have z0 : (x == 0) = false := beq_eq_false_iff_ne.2 hx0
              have HU2 : Hid (UOk (hh.set K (x + more)) n (12 + 12 * ((j + 1 : Nat) : Int))) := Lib.hid (by
                have := HU.out.more K hKn more mo1 mo2
                rw [HX.out] at this
                rw [show (12 : Int) + 12 * ((j + 1 : Nat) : Int) = 12 + 12 * (j : Int) + 12 from by omega]
                exact this)
              have HF2 := Lib.hid (hfr.setInt K (x + more))
              clear e3 hx0 hfr FN
              go_wp2_with fail
              exact ⟨⟨j + 1, hh.set K (x + more), by omega, by simp, E3, HU2, HF2.out⟩, by simp only [intOf]; omega⟩
        · obtain rfl : j = m := by omega
          have E3 : Hid (aftN more l ds = (hh, 0)) := Lib.hid (by rw [HE.out, List.drop_of_length_le (by rw [HM.out]; omega), aftN])
          have HFR := Lib.hid hfr
          go_wp2_with fail
          go_ret2
          exact ⟨_, n, cp1, by rw [E2.out, E3.out]; rfl, by rw [E2.out, E3.out]; exact HU.out.len, by rw [E2.out, E3.out]; exact HFR.out⟩
end Go.Proofs.Ytghobphnjfgjeaa
