/- Several of my texts in one: Urn3, Lot. -/
import Derived.Test.YtooghdnlaonkaaaDw12
import Derived.Test.YtooghdnlaonkaaaDw05
/- Urns: a first look; contract of urn.After. -/
namespace Go.Proofs.Ytooghdnlaonkaaa
open Go.RowKit

theorem urns_any (w : World) : Calls Try.prog 37 #[] w fun e w' => e = .returned (.bool true) ∧ Below w.heap.size w w' := by
  have g1 : urnL [1, 1] 1 [0, 0] = (1, 3, 0) := by decide +kernel
  have G1 := Lib.hid g1; clear g1
  go_enter Try.func37, Try.ntmps37
  go_wp2_with fail
  have F1 := (Fr.start w).lit [1, 1] #[.int .i64 1, .int .i64 1] rfl 2 rfl (by omega) 3
  have F2 := F1.lit' [0, 0] #[.int .i64 0, .int .i64 0] rfl 2 rfl (by omega) 3 (w.heap.size + 1) (by simp)
  refine (urnChance [1, 1] 2 _ _ 1 [0, 0] 2 _ _ _ (F2.get 1 rfl) rfl (F2.get 0 rfl) rfl).mono ?_; rintro e w1 ⟨rfl, hb⟩
  rw [G1.out]
  have F3 := (F2.keep hb).rat 1 3
  obtain ⟨c0, c1, c2, -⟩ := F3.ratAt 0 rfl
  go_wp2_with fail
  go_ret
  exact ⟨rfl, F3.bel⟩

/-- what is in the urn after the draws -/
def aftN (more : Int) : List Int → List Int → List Int × Int
  | h, [] => (h, 0)
  | h, k :: ds => if k < 0 ∨ (h.length : Int) ≤ k then ([], 1) else if nth h k.toNat = 0 then ([], 4) else aftN more (h.set k.toNat (nth h k.toNat + more)) ds
def aftL (l : List Int) (more : Int) (ds : List Int) : List Int × Int :=
  if urnChk l more ≠ 0 then ([], urnChk l more) else if 12 < ds.length then ([], 2) else aftN more l ds
def AftSaid (r : List Int × Int) (w : World) (e : Ending) (w' : World) : Prop :=
  ∃ (ad : Option Addr) (k cp : Nat), e = .returned (.tuple #[.slice ad k cp, .int .i64 r.2]) ∧ r.1.length = k ∧ Fr w w' [⟨3, .slice ad k cp, ints r.1⟩]
set_option maxRecDepth 100000 in
set_option maxHeartbeats 4000000 in
theorem urnAfter (l : List Int) (n : Nat) (a : Option Addr) (ca : Nat) (more : Int) (ds : List Int) (m : Nat) (b : Option Addr) (cb : Nat) (w : World)
    (h : Sa w a (ints l)) (hn : l.length = n) (h' : Sa w b (ints ds)) (hm : ds.length = m) :
    Calls Try.prog 43 #[.slice a n ca, .int .i64 more, .slice b m cb] w (AftSaid (aftL l more ds) w) := by
  have HN := Lib.hid hn; have HS := Lib.hid h; have HM := Lib.hid hm; have HS' := Lib.hid h'
  have e2 : aftL l more ds = if urnChk l more ≠ 0 then ([], urnChk l more) else if 12 < m then ([], 2) else aftN more l ds := by rw [← hm]; rfl
  clear h h' hm
  have F0 := Lib.hid ((Fr.start w).nilSlice 3)
  by_cases h0 : urnChk l more ≠ 0
  · rw [if_pos h0] at e2
    have E2 := Lib.hid e2; clear e2
    obtain ⟨er, her⟩ : ∃ er, urnChk l more = er := ⟨_, rfl⟩
    rw [her] at h0 E2
    have HE := Lib.hid her
    have z : (er != 0) = true := bne_iff_ne.2 h0
    clear her h0
    go_enter Try.func43, Try.ntmps43
    go_wp2_with fail
    refine (urnCheck l n _ _ more _ HS.out HN.out).mono ?_; rintro e w' ⟨rfl, rfl⟩
    rw [HE.out]
    go_wp2_with fail
    go_ret2
    exact ⟨none, 0, 0, by rw [E2.out]; rfl, by rw [E2.out]; rfl, by rw [E2.out]; exact F0.out⟩
  · rw [if_neg h0] at e2
    have hc : urnChk l more = 0 := by omega
    have HC := Lib.hid hc
    obtain ⟨ok, mo1, mo2⟩ := urnChk_ok hc
    rw [hn] at ok
    have OK := Lib.hid ok
    have n1 := ok.n1
    have n5 := ok.n5
    obtain ⟨ab, ao, rfl, _⟩ := HS.out (by rw [ints_len, HN.out]; omega)
    clear hc ok h0 hn
    by_cases hm12 : 12 < m
    · rw [if_pos hm12] at e2
      have E2 := Lib.hid e2; clear e2
      go_enter Try.func43, Try.ntmps43
      go_wp2_with fail
      refine (urnCheck l n _ _ more _ HS.out HN.out).mono ?_; rintro e w' ⟨rfl, rfl⟩
      rw [HC.out]
      go_wp2_with fail
      go_ret2
      exact ⟨none, 0, 0, by rw [E2.out]; rfl, by rw [E2.out]; rfl, by rw [E2.out]; exact F0.out⟩
    · rw [if_neg hm12] at e2
      have E2 := Lib.hid e2; clear e2
      have m12 : m ≤ 12 := by omega
      have dm : decide ((12 : Int) < (m : Int)) = false := decide_eq_false (by omega)
      clear hm12
      go_enter Try.func43, Try.ntmps43
      go_wp2_with fail
      refine (urnCheck l n _ _ more _ HS.out HN.out).mono ?_; rintro e w' ⟨rfl, rfl⟩
      rw [HC.out]
      have K1 := (Fr.start w).lit [] #[] rfl 0 rfl (by omega) 3
      go_wp2_with (with_reducible refine at_slot 23 ?_; go_must (refine wpList_copyOf rfl _ _ rfl _ _ n ca l [] rfl K1 rfl (K1.old HS.out) (by rw [ints_len, HN.out]) (fun e => by cases e) (by omega) ?_); intro ad1 cp1 w1 hf1 hz1)
      obtain ⟨g, rfl, -⟩ := hf1.open (by rw [ints_len, HN.out]; omega)
      clear K1 hz1
      go_loopw [26] (fun i wr => ∃ (j : Nat) (hh : List Int), j ≤ m ∧ i = .int .i64 j ∧ Hid (aftN more l ds = aftN more hh (ds.drop j)) ∧ Hid (UOk hh n (12 + 12 * j)) ∧ Fr w wr [⟨3, .slice (some ⟨g, 0, none⟩) n cp1, ints hh⟩]) (fun i _ => m - (intOf i).toNat)
      case atStart => exact ⟨0, l, by omega, rfl, Lib.hid rfl, Lib.hid (by simpa using OK.out), hf1⟩
      case round =>
        obtain ⟨j, hh, hj, rfl, HE, HU, hfr⟩ := hrel
        clear hf1
        by_cases hlt : j < m
        · obtain ⟨b', off, rfl, hb, hc⟩ := (hfr.old HS'.out).int j (by rw [HM.out]; exact hlt)
          have hdr : ds.drop j = nth ds j :: ds.drop (j + 1) := by rw [List.drop_eq_getElem_cons (by rw [HM.out]; exact hlt)]; simp [nth, HM.out, hlt]
          obtain ⟨k, hk⟩ : ∃ k, nth ds j = k := ⟨_, rfl⟩
          rw [hk] at hc hdr
          have HK := Lib.hid hk
          have e3 := HE.out
          rw [hdr, aftN, HU.out.len] at e3
          clear hdr hk
          have FN := Lib.hid (hfr.below.nilSlice 3)
          by_cases hbad : k < 0 ∨ (n : Int) ≤ k
          · rw [if_pos hbad] at e3
            have E3 := Lib.hid e3
            clear e3
            rcases hbad with hbad | hbad
            · have d3 : decide (k < 0) = true := decide_eq_true hbad
              go_wp2_with fail
              go_ret2
              exact ⟨none, 0, 0, by rw [E2.out, E3.out]; rfl, by rw [E2.out, E3.out]; rfl, by rw [E2.out, E3.out]; exact FN.out⟩
            · have d3 : decide (k < 0) = false := decide_eq_false (by omega)
              have d4 : decide ((n : Int) ≤ k) = true := decide_eq_true hbad
              go_wp2_with fail
              go_ret2
              exact ⟨none, 0, 0, by rw [E2.out, E3.out]; rfl, by rw [E2.out, E3.out]; rfl, by rw [E2.out, E3.out]; exact FN.out⟩
          · obtain ⟨K, rfl⟩ : ∃ K : Nat, k = K := ⟨k.toNat, by omega⟩
            have hKn : K < n := by omega
            rw [if_neg hbad, Int.toNat_natCast] at e3
            have d3 : decide ((K : Int) < 0) = false := decide_eq_false (by omega)
            have d4 : decide (n ≤ K) = false := decide_eq_false (by omega)
            clear hbad
            have hxk := HU.out.nth K hKn
            obtain ⟨g', e, _, hck, hzk⟩ := hfr.openI K (by rw [HU.out.len]; exact hKn)
            cases e
            obtain ⟨x, hx⟩ : ∃ x, nth hh K = x := ⟨_, rfl⟩
            have HX := Lib.hid hx
            rw [hx] at hck hxk e3
            obtain ⟨x1, x2⟩ := hxk
            clear hx
            by_cases hx0 : x = 0
            · rw [if_pos hx0] at e3
              have E3 := Lib.hid e3
              subst hx0
              clear e3
              go_wp2_with fail
              go_ret2
              exact ⟨none, 0, 0, by rw [E2.out, E3.out]; rfl, by rw [E2.out, E3.out]; rfl, by rw [E2.out, E3.out]; exact FN.out⟩
            · rw [if_neg hx0] at e3
              have E3 := Lib.hid e3
              have z0 : (x == 0) = false := beq_eq_false_iff_ne.2 hx0
              have HU2 : Hid (UOk (hh.set K (x + more)) n (12 + 12 * ((j + 1 : Nat) : Int))) := Lib.hid (by
                have := HU.out.more K hKn more mo1 mo2
                rw [HX.out] at this
                rw [show (12 : Int) + 12 * ((j + 1 : Nat) : Int) = 12 + 12 * (j : Int) + 12 from by omega]
                exact this)
              have HF2 := Lib.hid (hfr.setInt K (x + more))
              clear e3 hx0 hfr FN
              go_wp2_with fail
              exact ⟨⟨j + 1, hh.set K (x + more), by omega, by simp, E3, HU2, HF2.out⟩, by simp only [intOf]; omega⟩
        · obtain rfl : j = m := by omega
          have E3 : Hid (aftN more l ds = (hh, 0)) := Lib.hid (by rw [HE.out, List.drop_of_length_le (by rw [HM.out]; omega), aftN])
          have HFR := Lib.hid hfr
          go_wp2_with fail
          go_ret2
          exact ⟨_, n, cp1, by rw [E2.out, E3.out]; rfl, by rw [E2.out, E3.out]; exact HU.out.len, by rw [E2.out, E3.out]; exact HFR.out⟩
end Go.Proofs.Ytooghdnlaonkaaa
/- Contracts of package lottery, at tickets that are right. -/
namespace Go.Proofs.Ytooghdnlaonkaaa
open Go.RowKit

def isum : List Int → Int
  | [] => 0
  | x :: r => x + isum r
theorem isum_app : ∀ l m : List Int, isum (l ++ m) = isum l + isum m
  | [], m => by simp [isum]
  | x :: r, m => by rw [List.cons_append, isum, isum, isum_app r m]; omega
theorem isum_snoc (l : List Int) (x : Int) : isum (l ++ [x]) = isum l + x := by rw [isum_app]; simp [isum]
theorem isum_take (l : List Int) (k : Nat) (h : k < l.length) : isum (l.take (k + 1)) = isum (l.take k) + nth l k := by rw [take_nth l k h, isum_snoc]
theorem drop_nth (l : List Int) (k : Nat) (h : k < l.length) : l.drop k = nth l k :: l.drop (k + 1) := by
  rw [List.drop_eq_getElem_cons h]; simp [nth, h]
theorem isum_bd (m : Int) (l : List Int) (h : ∀ k, k < l.length → 0 ≤ nth l k ∧ nth l k ≤ m) : ∀ k, k ≤ l.length → 0 ≤ isum (l.take k) ∧ isum (l.take k) ≤ m * k
  | 0, _ => by simp [isum]
  | k + 1, hk => by
    have h1 := isum_bd m l h k (by omega)
    have h2 := h k (by omega)
    rw [isum_take l k (by omega)]
    have : m * ((k + 1 : Nat) : Int) = m * (k : Int) + m := by rw [Int.natCast_add, Int.mul_add]; simp
    omega

def TkOk (l : List Int) : Prop := l.length ≤ 8 ∧ ∀ k, k < l.length → 0 ≤ nth l k ∧ nth l k ≤ 100
theorem TkOk.sum {l : List Int} (h : TkOk l) (k : Nat) (hk : k ≤ l.length) : 0 ≤ isum (l.take k) ∧ isum (l.take k) ≤ 800 := by
  have := isum_bd 100 l h.2 k hk
  have := h.1
  omega

set_option maxHeartbeats 1000000 in
theorem lotChk (l : List Int) (n : Nat) (a : Option Addr) (cap : Nat) (w : World) (h : Sa w a (ints l)) (hn : l.length = n) (hp : TkOk l) :
    Calls Try.prog 94 #[.slice a n cap] w fun e w' => e = .returned (.int .i64 0) ∧ w = w' := by
  have hl := hp.1
  rw [hn] at hl
  have HN := Lib.hid hn; have HS := Lib.hid h; have HP := Lib.hid hp.2
  clear hn h hp
  go_enter Try.func94, Try.ntmps94
  go_wp2_with fail
  go_loop [10] (fun i => ∃ k : Nat, k ≤ n ∧ i = .int .i64 k) (fun i => n - (intOf i).toNat)
  case atStart => exact ⟨0, by omega, rfl⟩
  case round =>
    obtain ⟨k, hk, rfl⟩ := hrel
    by_cases hlt : k < n
    · obtain ⟨b, off, rfl, hb, hc⟩ := HS.out.int k (by rw [HN.out]; exact hlt)
      obtain ⟨p1, p2⟩ := HP.out k (by rw [HN.out]; exact hlt)
      obtain ⟨x, hx⟩ : ∃ x, nth l k = x := ⟨_, rfl⟩
      rw [hx] at hc p1 p2
      clear hx
      go_wp2_with fail
      exact ⟨⟨k + 1, by omega, by simp⟩, by simp only [intOf]; omega⟩
    · go_wp2_with fail
      go_ret
      exact ⟨rfl, rfl⟩

set_option maxHeartbeats 1000000 in
theorem lotAll (l : List Int) (n : Nat) (a : Option Addr) (cap : Nat) (w : World) (h : Sa w a (ints l)) (hn : l.length = n) (hp : TkOk l) :
    Calls Try.prog 132 #[.slice a n cap] w fun e w' => e = .returned (.tuple #[.int .i64 (isum l), .int .i64 0]) ∧ w = w' := by
  have hl := hp.1
  rw [hn] at hl
  have HN := Lib.hid hn; have HS := Lib.hid h; have HP := Lib.hid hp
  clear hn h hp
  go_enter Try.func132, Try.ntmps132
  go_wp2_with fail
  refine (lotChk l n _ _ _ HS.out HN.out HP.out).mono ?_; rintro e w' ⟨rfl, rfl⟩
  go_wp2_with fail
  go_loop [5, 15] (fun s i => ∃ k : Nat, k ≤ n ∧ i = .int .i64 k ∧ s = .int .i64 (isum (l.take k))) (fun _ i => n - (intOf i).toNat)
  case atStart => exact ⟨0, by omega, rfl, rfl⟩
  case round =>
    obtain ⟨k, hk, rfl, rfl⟩ := hrel
    by_cases hlt : k < n
    · obtain ⟨b, off, rfl, hb, hc⟩ := HS.out.int k (by rw [HN.out]; exact hlt)
      obtain ⟨p1, p2⟩ := HP.out.2 k (by rw [HN.out]; exact hlt)
      obtain ⟨s1, s2⟩ := HP.out.sum k (by rw [HN.out]; exact hk)
      have hs := Lib.hid (isum_take l k (by rw [HN.out]; exact hlt))
      obtain ⟨x, hx⟩ : ∃ x, nth l k = x := ⟨_, rfl⟩
      obtain ⟨S, hS⟩ : ∃ S, isum (l.take k) = S := ⟨_, rfl⟩
      rw [hx] at hc p1 p2
      rw [hS] at s1 s2 ⊢
      have HX := Lib.hid hx; have HSS := Lib.hid hS
      clear hx hS
      go_wp2_with fail
      exact ⟨⟨k + 1, by omega, by simp, by rw [hs.out, HSS.out, HX.out]⟩, by simp only [intOf]; omega⟩
    · have hkn : l.take k = l := List.take_of_length_le (by rw [HN.out]; omega)
      rw [hkn]
      go_wp2_with fail
      go_ret2
      exact ⟨rfl, rfl⟩

/-- who has the lot -/
def winL : List Int → Int → Nat
  | [], _ => 0
  | x :: r, lot => if x ≤ lot then winL r (lot - x) + 1 else 0

set_option maxHeartbeats 1000000 in
theorem lotWinner (l : List Int) (n : Nat) (a : Option Addr) (cap : Nat) (lot : Int) (w : World) (h : Sa w a (ints l)) (hn : l.length = n) (hp : TkOk l) (h0 : 0 ≤ lot) (h1 : lot < isum l) :
    Calls Try.prog 89 #[.slice a n cap, .int .i64 lot] w fun e w' => e = .returned (.tuple #[.int .i64 (winL l lot : Nat), .int .i64 0]) ∧ w = w' := by
  have hl := hp.1
  have hb := hp.sum l.length (Nat.le_refl _)
  rw [List.take_length] at hb
  rw [hn] at hl
  have HN := Lib.hid hn; have HS := Lib.hid h; have HP := Lib.hid hp; have H1 := Lib.hid h1
  obtain ⟨S, hS⟩ : ∃ S, isum l = S := ⟨_, rfl⟩
  rw [hS] at hb h1
  have HSS := Lib.hid hS
  clear hn h hp hS
  go_enter Try.func89, Try.ntmps89
  go_wp2_with fail
  refine (lotAll l n _ _ _ HS.out HN.out HP.out).mono ?_; rintro e w' ⟨rfl, rfl⟩
  rw [HSS.out]
  have q0 : (S == 0) = false := by rw [beq_eq_false_iff_ne]; omega
  go_wp2_with fail
  go_loop [1, 8] (fun lo i => ∃ (k : Nat) (t : Int), k ≤ n ∧ i = .int .i64 k ∧ lo = .int .i64 t ∧ 0 ≤ t ∧ t ≤ 800 ∧ t < isum (l.drop k) ∧ Hid (winL l lot = k + winL (l.drop k) t)) (fun _ i => n + 1 - (intOf i).toNat)
  case atStart => exact ⟨0, lot, by omega, rfl, rfl, h0, by omega, H1.out, Lib.hid (by simp)⟩
  case round =>
    obtain ⟨k, t, hk, rfl, rfl, t0, t1, t2, HW⟩ := hrel
    have hlt : k < n := by
      rcases Nat.lt_or_ge k n with h | h
      · exact h
      · rw [List.drop_of_length_le (by rw [HN.out]; exact h)] at t2
        simp [isum] at t2; omega
    obtain ⟨b, off, rfl, hbb, hc⟩ := HS.out.int k (by rw [HN.out]; exact hlt)
    obtain ⟨p1, p2⟩ := HP.out.2 k (by rw [HN.out]; exact hlt)
    have hd := drop_nth l k (by rw [HN.out]; exact hlt)
    have hw := HW.out
    rw [hd] at t2 hw
    obtain ⟨x, hx⟩ : ∃ x, nth l k = x := ⟨_, rfl⟩
    rw [hx] at hc p1 p2 t2 hw
    rw [isum] at t2
    rw [winL] at hw
    clear hx hd HW
    by_cases hxt : x ≤ t
    · rw [if_pos hxt] at hw
      have HW := Lib.hid hw
      have T2 := Lib.hid t2
      clear hw t2
      go_wp2_with fail
      exact ⟨⟨k + 1, t - x, by omega, by simp, rfl, by omega, by omega, by have := T2.out; omega, Lib.hid (by have := HW.out; omega)⟩, by simp only [intOf]; omega⟩
    · rw [if_neg hxt, Nat.add_zero] at hw
      have HW := Lib.hid hw
      clear hw t2
      go_wp2_with fail
      go_ret2
      exact ⟨by rw [HW.out]; rfl, rfl⟩

set_option maxHeartbeats 400000 in
theorem lotWinner0 (l : List Int) (n : Nat) (a : Option Addr) (cap : Nat) (lot : Int) (w : World) (h : Sa w a (ints l)) (hn : l.length = n) (hp : TkOk l) (h1 : isum l = 0) :
    Calls Try.prog 89 #[.slice a n cap, .int .i64 lot] w fun e w' => e = .returned (.tuple #[.int .i64 0, .int .i64 4]) ∧ w = w' := by
  have HN := Lib.hid hn; have HS := Lib.hid h; have HP := Lib.hid hp; have H1 := Lib.hid h1
  clear hn h hp h1
  go_enter Try.func89, Try.ntmps89
  go_wp2_with fail
  refine (lotAll l n _ _ _ HS.out HN.out HP.out).mono ?_; rintro e w' ⟨rfl, rfl⟩
  rw [H1.out]
  go_wp2_with fail
  go_ret2
  exact ⟨rfl, rfl⟩

/-! tickets of any numbers -/
def tkL (l : List Int) : List Int := (l.take 8).map (· % 21)
theorem tkL_len (l : List Int) : (tkL l).length = min 8 l.length := by simp [tkL]
theorem tkL_nth (l : List Int) (k : Nat) (h : k < (tkL l).length) : nth (tkL l) k = nth l k % 21 := by
  unfold tkL at h ⊢
  rw [List.length_map, List.length_take] at h
  have h1 : k < (l.take 8).length := by rw [List.length_take]; exact h
  rw [nth_map _ _ k h1, nth_take l 8 k (by omega)]
theorem tkL_ok (l : List Int) : TkOk (tkL l) := by
  refine ⟨by rw [tkL_len]; omega, fun k hk => ?_⟩
  rw [tkL_nth l k hk]; omega
theorem tkL_20 (l : List Int) (k : Nat) (hk : k < (tkL l).length) : 0 ≤ nth (tkL l) k ∧ nth (tkL l) k ≤ 20 := by
  rw [tkL_nth l k hk]; omega

def MadeSl (l : List Int) (w : World) (e : Ending) (w' : World) : Prop :=
  ∃ (ad : Option Addr) (n cp : Nat), e = .returned (.slice ad n cp) ∧ l.length = n ∧ n ≤ cp ∧ Fr w w' [⟨3, .slice ad n cp, ints l⟩]

theorem lotteries_any (w : World) : Calls Try.prog 38 #[] w fun e w' => e = .returned (.bool true) ∧ Below w.heap.size w w' := by
  have HP := Lib.hid (show TkOk [1, 0, 2] from ⟨by decide, by decide⟩)
  have e1 : ((winL [1, 0, 2] 1 : Nat) : Int) = 2 := by decide
  have E1 := Lib.hid e1; clear e1
  go_enter Try.func38, Try.ntmps38
  go_wp2_with fail
  have F1 := (Fr.start w).lit [1, 0, 2] #[.int .i64 1, .int .i64 0, .int .i64 2] rfl 3 rfl (by omega) 3
  refine (lotWinner [1, 0, 2] 3 _ _ 1 _ (F1.get 0 rfl) rfl HP.out (by decide) (by decide)).mono ?_; rintro e w' ⟨rfl, rfl⟩
  rw [E1.out]
  go_wp2_with fail
  go_ret
  exact ⟨rfl, F1.bel⟩
end Go.Proofs.Ytooghdnlaonkaaa
