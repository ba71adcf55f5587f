/- Several of my texts in one: OrbL, OrbR, WOrb1. -/
import Derived.Test.YtooghdnlaonkaaaRw50
import Derived.Test.YtooghdnlaonkaaaRw48
import Derived.Test.YtooghdnlaonkaaaRw13
import Derived.Test.YtooghdnlaonkaaaRw27
/- orbits.Colours and orbits.Least of orders. -/
namespace Go.Proofs.Ytooghdnlaonkaaa
open Go.RowKit

theorem Fr.rmR {w0 w : World} {L : List Ent} (h : Fr w0 w L) {ad : Option Addr} {n cap : Nat} {R : List Rw} (h1 : outE ad n cap R ∈ L) (h2 : ∀ p ∈ R, re p ∈ L) : Rm w ad R :=
  ⟨h.mem h1, fun p hp => h.mem (h2 p hp)⟩
def colS (G : List (List Int)) (k : Nat) (j : Nat) : Nat := sumOn (G.take j) fun g => k ^ cycN g
theorem colS_succ (G : List (List Int)) (k j : Nat) (h : j < G.length) : colS G k (j + 1) = colS G k j + k ^ cycN G[j] := by
  unfold colS
  rw [List.take_add_one, List.getElem?_eq_getElem h]
  unfold sumOn
  rw [List.map_append, List.sum_append]; simp
theorem cyc_le {n : Nat} {g : List Int} {out : List Nat} (h : CycOk g out) (hg : Pn n g) (h6 : n ≤ 6) : cycN g ≤ 6 := by
  have h1 := cyc_len h (by rw [hg.1]; omega)
  have h2 := h.le
  rw [hg.1] at h2
  omega
theorem pow_small {k c : Nat} (hk : k ≤ 10) (hc : c ≤ 6) : k ^ c ≤ 1000000 := by
  calc k ^ c ≤ 10 ^ c := Nat.pow_le_pow_left hk c
    _ ≤ 10 ^ 6 := Nat.pow_le_pow_right (by omega) hc
    _ = 1000000 := by decide
def ColSaid (n : Nat) (ls : List (List Int)) (k : Nat) (w : World) (e : Ending) (w' : World) : Prop :=
  ∃ G, IsGrp n ls G ∧ e = .returned (.tuple #[.int .i64 ((colS G k G.length / G.length : Nat) : Int), .int .i64 0]) ∧ Fr w w' []
set_option maxRecDepth 100000 in
set_option maxHeartbeats 8000000 in
theorem orbCol (n : Nat) (R0 : List Rw) (m : Nat) (a : Option Addr) (cap : Nat) (k : Nat) (w : World) (h : Rm w a R0) (hm : R0.length = m) (n6 : n ≤ 6) (m6 : m ≤ 6) (hp : AllPn n (lsR R0)) (hk : k ≤ 10) :
    Calls Try.prog 72 #[.int .i64 n, .slice a m cap, .int .i64 k] w (ColSaid n (lsR R0) k w) := by
  have HG := Lib.hid (orbGroup n R0 m a cap w h hm n6 m6 hp)
  have g1 : decide ((k : Int) < 0) = false := decide_eq_false (by omega)
  have g2 : decide ((10 : Int) < (k : Int)) = false := decide_eq_false (by omega)
  clear h hm hp
  go_enter Try.func72, Try.ntmps72
  go_wp2_with fail
  refine HG.out.mono ?_; rintro e w1 ⟨ad, cp, R, rfl, hf1, hgr⟩
  obtain ⟨r, hr⟩ : ∃ r, R.length = r := ⟨_, rfl⟩
  rw [hr] at hf1 ⊢
  have HR := Lib.hid hr
  have hr720 : r ≤ 720 := by
    have h1 := hgr.len
    rw [lsR_len, hr] at h1
    have := fac6 n n6; omega
  have hr0 : 0 < r := by have := hgr.pos; rwa [lsR_len, hr] at this
  have HRm := Lib.hid (hf1.rmR List.mem_cons_self fun p hp => List.mem_cons_of_mem _ (List.mem_map_of_mem hp))
  have HGr := Lib.hid hgr
  have HF1 := Lib.hid hf1.below
  clear hf1 hgr HG hr
  go_wp2_with fail
  clear g1 g2
  go_loopw [10, 33] (fun s i wr => ∃ j : Nat, j ≤ r ∧ i = .int .i64 j ∧ s = .int .i64 (colS (lsR R) k j : Nat) ∧ colS (lsR R) k j ≤ j * 1000000 ∧ Hid (Fr w1 wr [])) (fun _ i _ => r - (intOf i).toNat)
  case atStart => exact ⟨0, by omega, rfl, rfl, by simp [colS, sumOn], Lib.hid (Fr.start w1)⟩
  case round =>
    obtain ⟨j, hj, rfl, rfl, hb, HF⟩ := hrel
    by_cases hlt : j < r
    · have hjR : j < R.length := by rw [HR.out]; exact hlt
      obtain ⟨b1, o1, rfl, hb1, c1, s1⟩ := (HRm.out.keep HF.out.bel).at j hjR
      have hpn := HGr.out.pn (List.mem_map.2 ⟨_, List.getElem_mem hjR, rfl⟩)
      have hss := colS_succ (lsR R) k j (by rw [lsR_len]; exact hjR)
      rw [lsR_get R j hjR] at hss
      obtain ⟨⟨x1, y1, l1⟩, hp1⟩ : ∃ p : Rw, R[j] = p := ⟨_, rfl⟩
      rw [hp1] at c1 s1 hpn hss
      simp only [rv] at c1
      simp only at s1 hpn hss
      rw [hpn.1] at c1
      have HC := Lib.hid (cycles_any l1 n x1 y1 wr s1 hpn.1 hpn.2 (by omega))
      have HPn := Lib.hid hpn
      have HSS := Lib.hid hss
      obtain ⟨S, hS⟩ : ∃ S, colS (lsR R) k j = S := ⟨_, rfl⟩
      rw [hS] at hb HSS ⊢
      have d1 : (0 : Int) ≤ (j : Int) := by omega
      have d2 : (j : Int) < (r : Int) := by omega
      clear hp1 s1 hpn hss hS
      go_wp2_with fail
      refine HC.out.mono ?_; rintro e w2 ⟨x2, y2, out, rfl, hco, hf2⟩
      have hc6 := cyc_le hco HPn.out n6
      have hcl := cyc_len hco (by rw [HPn.out.1]; omega)
      rw [hcl] at hf2 ⊢
      obtain ⟨c, hc⟩ : ∃ c, cycN l1 = c := ⟨_, rfl⟩
      rw [hc] at hf2 HSS hc6 ⊢
      have HF2 := Lib.hid (HF.out.keep hf2.bel)
      clear hf2 hc hcl hco HC c1 d1 d2
      go_wp2_with fail
      go_loopw [15, 44] (fun x i wr => ∃ t : Nat, t ≤ c ∧ i = .int .i64 t ∧ x = .int .i64 ((k ^ t : Nat) : Int) ∧ Hid (Fr w1 wr [])) (fun _ i _ => c - (intOf i).toNat)
      case atStart => exact ⟨0, by omega, rfl, rfl, HF2⟩
      case round =>
        obtain ⟨t, ht, rfl, rfl, HF3⟩ := hrel
        by_cases hlt2 : t < c
        · obtain ⟨X, hX⟩ : ∃ X, k ^ t = X := ⟨_, rfl⟩
          have hXb : X ≤ 1000000 := by rw [← hX]; exact pow_small hk (by omega)
          obtain ⟨Y, hY⟩ : ∃ Y, k ^ (t + 1) = Y := ⟨_, rfl⟩
          have hYb : Y ≤ 1000000 := by rw [← hY]; exact pow_small hk (by omega)
          have hXY : (X : Int) * (k : Int) = (Y : Int) := by rw [← hX, ← hY, Nat.pow_succ]; simp
          rw [hX]
          have HY := Lib.hid hY
          clear hX hY
          have d1 : (t : Int) < (c : Int) := by omega
          go_wp2_with fail
          exact ⟨⟨t + 1, by omega, by simp, by rw [HY.out], HF3⟩, by simp only [intOf]; omega⟩
        · obtain rfl : t = c := by omega
          obtain ⟨X, hX⟩ : ∃ X, k ^ t = X := ⟨_, rfl⟩
          have hXb : X ≤ 1000000 := by rw [← hX]; exact pow_small hk hc6
          rw [hX] at HSS ⊢
          clear hX
          go_wp2_with fail
          exact ⟨⟨j + 1, by omega, by simp, by rw [HSS.out]; simp, by rw [HSS.out]; omega, HF3⟩, by simp only [intOf]; omega⟩
    · obtain rfl : j = r := by omega
      obtain ⟨S, hS⟩ : ∃ S, colS (lsR R) k j = S := ⟨_, rfl⟩
      rw [hS] at hb ⊢
      have HS := Lib.hid hS
      have hq : (S : Int) / (j : Int) = ((S / j : Nat) : Int) := by simp
      have hqb : S / j ≤ S := Nat.div_le_self _ _
      obtain ⟨Q, hQ⟩ : ∃ Q, S / j = Q := ⟨_, rfl⟩
      rw [hQ] at hq hqb
      have HQ := Lib.hid hQ
      clear hS hQ
      go_wp2_with fail
      go_ret2
      refine ⟨_, HGr.out, ?_, HF1.out.keep HF.out.bel⟩
      rw [lsR_len, HR.out, HS.out, HQ.out]; rfl
def LstSaid (n : Nat) (ls : List (List Int)) (z : List Int) (w : World) (e : Ending) (w' : World) : Prop :=
  ∃ G, IsGrp n ls G ∧ ∃ (ad : Option Addr) (cp : Nat), e = .returned (.tuple #[.slice ad n cp, .int .i64 0]) ∧ Fr w w' [⟨3, .slice ad n cp, ints (leastL G z)⟩]
set_option maxRecDepth 100000 in
set_option maxHeartbeats 8000000 in
theorem orbLeast (n : Nat) (R0 : List Rw) (m : Nat) (a : Option Addr) (cap : Nat) (z : List Int) (b : Option Addr) (cb : Nat) (w : World) (h : Rm w a R0) (hm : R0.length = m) (n6 : n ≤ 6) (m6 : m ≤ 6) (hp : AllPn n (lsR R0)) (hz : Sa w b (ints z)) (hn : z.length = n) (hcb : n ≤ cb) :
    Calls Try.prog 29 #[.int .i64 n, .slice a m cap, .slice b n cb] w (LstSaid n (lsR R0) z w) := by
  have HG := Lib.hid (orbGroup n R0 m a cap w h hm n6 m6 hp)
  have HZ := Lib.hid hz; have HN := Lib.hid hn
  have g1 : ((n : Int) != (n : Int)) = false := by simp
  have hmk := make_ints n (by omega)
  clear h hm hp hz hn
  go_enter Try.func29, Try.ntmps29
  go_wp2_with fail
  refine HG.out.mono ?_; rintro e w1 ⟨ad, cp, R, rfl, hf1, hgr⟩
  obtain ⟨r, hr⟩ : ∃ r, R.length = r := ⟨_, rfl⟩
  rw [hr] at hf1 ⊢
  have HR := Lib.hid hr
  have hr720 : r ≤ 720 := by
    have h1 := hgr.len
    rw [lsR_len, hr] at h1
    have := fac6 n n6; omega
  have HRm := Lib.hid (hf1.rmR List.mem_cons_self fun p hp => List.mem_cons_of_mem _ (List.mem_map_of_mem hp))
  have HGr := Lib.hid hgr
  have HF1 := Lib.hid hf1.below
  have HCl := Lib.hid (slClone z n b cb w1 (hf1.old HZ.out) HN.out (by omega))
  clear hf1 hgr HG hr
  go_wp2_with fail
  refine HCl.out.mono ?_; rintro e w2 ⟨x2, y2, rfl, hc2, hf2⟩
  have HF2 := Lib.hid hf2
  clear hf2 HCl
  go_wp2_with fail
  clear g1
  go_loopw [10, 33] (fun o i wr => ∃ (j : Nat) (x : Option Addr) (y : Nat), j ≤ r ∧ i = .int .i64 j ∧ o = .slice x n y ∧ n ≤ y ∧ Hid (Fr w1 wr [⟨3, .slice x n y, ints (leastK (lsR R) z j)⟩])) (fun _ i _ => r - (intOf i).toNat)
  case atStart => exact ⟨0, x2, y2, by omega, rfl, rfl, hc2, HF2⟩
  case round =>
    clear HF2 hc2
    obtain ⟨j, x3, y3, hj, rfl, rfl, hc3, HF⟩ := hrel
    by_cases hlt : j < r
    · have hjR : j < R.length := by rw [HR.out]; exact hlt
      obtain ⟨b1, o1, rfl, hb1, c1, s1⟩ := (HRm.out.keep HF.out.bel).at j hjR
      have hpn := HGr.out.pn (List.mem_map.2 ⟨_, List.getElem_mem hjR, rfl⟩)
      have hls : leastK (lsR R) z (j + 1) = if lexC (actL R[j].2.2 z) (leastK (lsR R) z j) < 0 then actL R[j].2.2 z else leastK (lsR R) z j := by
        rw [leastK]
        rw [show (lsR R).getD j [] = R[j].2.2 by rw [List.getD_eq_getElem?_getD, List.getElem?_eq_getElem (by rw [lsR_len]; exact hjR), lsR_get R j hjR]; rfl]
      have hll : (leastK (lsR R) z j).length = n := by
        obtain ⟨⟨t, ht, e⟩, -⟩ := leastK_in HGr.out HN.out j (by rw [lsR_len, HR.out]; omega)
        rw [e, actL_len (HGr.out.pn ht)]
      obtain ⟨⟨x1, y1, l1⟩, hp1⟩ : ∃ p : Rw, R[j] = p := ⟨_, rfl⟩
      rw [hp1] at c1 s1 hpn
      simp only [hp1] at hls
      simp only [rv] at c1
      simp only at s1 hpn
      rw [hpn.1] at c1
      have s1 := HRm.out.row _ (List.getElem_mem hjR)
      rw [hp1] at s1
      simp only at s1
      have HS1 := Lib.hid s1
      have HPn := Lib.hid hpn
      have HLs := Lib.hid hls
      have HLl := Lib.hid hll
      obtain ⟨L, hL⟩ : ∃ L, leastK (lsR R) z j = L := ⟨_, rfl⟩
      rw [hL] at HF HLs HLl
      have d1 : (0 : Int) ≤ (j : Int) := by omega
      have d2 : (j : Int) < (r : Int) := by omega
      have hF3 := HF.out.makeInts n (by omega)
      clear hp1 s1 hpn hls hL hll
      go_wp2_with fail
      obtain ⟨N, hN⟩ : ∃ N, wr.heap.size = N := ⟨_, rfl⟩
      rw [hN] at hF3 ⊢
      have HF3 := Lib.hid hF3
      clear hF3 d1 d2 c1
      go_loopw [41] (fun i wr' => ∃ t : Nat, t ≤ n ∧ i = .int .i64 t ∧ Hid (Fr w1 wr' [⟨3, .slice (some ⟨N, 0, none⟩) n n, ints (turnK l1 z n t)⟩, ⟨3, .slice x3 n y3, ints L⟩])) (fun i _ => n - (intOf i).toNat)
      case atStart => exact ⟨0, by omega, rfl, HF3⟩
      case round =>
        clear HF3 HF
        obtain ⟨t, ht, rfl, HF⟩ := hrel
        by_cases hlt2 : t < n
        · obtain ⟨b2, o2, rfl, hb2, c2⟩ := (HS1.out.keep HF.out.bel).int t (by rw [HPn.out.1]; exact hlt2)
          obtain ⟨b3, o3, rfl, hb3, c3⟩ := ((HZ.out.keep HF1.out.bel).keep HF.out.bel).int t (by rw [HN.out]; exact hlt2)
          have hx := HPn.out.2.at t (by rw [HPn.out.1]; exact hlt2)
          have hst : (turnK l1 z n t).set (nth l1 t).toNat (nth z t) = turnK l1 z n (t + 1) := rfl
          obtain ⟨x, hxx⟩ : ∃ x, (nth l1 t).toNat = x := ⟨_, rfl⟩
          rw [hxx] at hx hst
          rw [← hx.2] at c2
          obtain ⟨_, e, _, c1, z1⟩ := HF.out.openI x (by rw [turnK_len, ← HPn.out.1]; exact hx.1)
          cases e
          obtain ⟨v, hv⟩ : ∃ v, nth z t = v := ⟨_, rfl⟩
          rw [hv] at c3 hst
          have F4 := HF.out.setInt x v
          rw [hst] at F4
          have HF4 := Lib.hid F4
          have xn : x < n := by rw [← HPn.out.1]; exact hx.1
          obtain ⟨u, hu⟩ : ∃ u, nth (turnK l1 z n t) x = u := ⟨_, rfl⟩
          rw [hu] at c1
          clear hx hxx hst F4 hu hv
          have d1 : (0 : Int) ≤ (t : Int) := by omega
          have d2 : (t : Int) < (n : Int) := by omega
          have d3 : (0 : Int) ≤ (x : Int) := by omega
          have d4 : (x : Int) < (n : Int) := by omega
          go_wp2_with fail
          exact ⟨⟨t + 1, by omega, by simp, HF4⟩, by simp only [intOf]; omega⟩
        · obtain rfl : t = n := by omega
          have hT := HF.out
          rw [turnK_all HPn.out] at hT
          have hal := actL_len HPn.out z
          obtain ⟨A, hA⟩ : ∃ A, actL l1 z = A := ⟨_, rfl⟩
          rw [hA] at hT hal HLs
          have hcm := slCompare A L (.slice (some ⟨N, 0, none⟩) t t) (.slice x3 t y3) wr (Sa.sl' (hT.get 0 rfl) t t hal) (Sa.sl' (hT.get 1 rfl) t y3 HLl.out) (by rw [hal, HLl.out]) (by rw [hal]; omega)
          have HCm := Lib.hid hcm
          have HT := Lib.hid hT
          clear hA hcm hT HF hal
          go_wp2_with fail
          refine HCm.out.mono ?_; rintro e w' ⟨rfl, rfl⟩
          by_cases hc : lexC A L < 0
          · have HLs2 : Hid (leastK (lsR R) z (j + 1) = A) := Lib.hid (by rw [HLs.out, if_pos hc])
            have g : decide (lexC A L < 0) = true := decide_eq_true hc
            clear hc
            go_wp2_with fail
            exact ⟨⟨j + 1, _, _, by omega, by simp, rfl, by omega, Lib.hid (by rw [HLs2.out]; exact HT.out.sub (.cons_cons _ (.cons _ .slnil)))⟩, by simp only [intOf]; omega⟩
          · have HLs2 : Hid (leastK (lsR R) z (j + 1) = L) := Lib.hid (by rw [HLs.out, if_neg hc])
            have g : decide (lexC A L < 0) = false := decide_eq_false hc
            clear hc
            go_wp2_with fail
            exact ⟨⟨j + 1, _, _, by omega, by simp, rfl, hc3, Lib.hid (by rw [HLs2.out]; exact HT.out.tail)⟩, by simp only [intOf]; omega⟩
    · obtain rfl : j = r := by omega
      go_wp2_with fail
      go_ret2
      refine ⟨_, HGr.out, x3, y3, rfl, ?_⟩
      have h1 := HF1.out.call HF.out
      unfold leastL
      rw [lsR_len, HR.out]
      exact h1
end Go.Proofs.Ytooghdnlaonkaaa
/- What one order makes; rings: in plain words. -/
namespace Go.Proofs.Ytooghdnlaonkaaa
open Go.RowKit

/-- an order, so many times -/
def itT (n : Nat) (p : List Int) : Nat → List Int
  | 0 => oneP n
  | k + 1 => tmL p (itT n p k)
theorem gen_it (n : Nat) (p : List Int) : ∀ k, Gen n [p] (itT n p k)
  | 0 => .one
  | k + 1 => .step _ _ (by simp) (gen_it n p k)
theorem oneGrp {n m : Nat} {p : List Int} (hp : Pn n p) (h0 : 0 < m) (hm : itT n p m = oneP n) (hs : ((List.range m).map (itT n p)).Pairwise (fun a b => lexC a b < 0)) : IsGrp n [p] ((List.range m).map (itT n p)) := by
  refine ⟨fun q hq => by rw [List.mem_singleton] at hq; subst hq; exact hp, hs, fun q => ⟨fun hq => ?_, fun hg => ?_⟩⟩
  · obtain ⟨k, -, rfl⟩ := List.mem_map.1 hq
    exact gen_it n p k
  · induction hg with
    | one => exact List.mem_map.2 ⟨0, List.mem_range.2 h0, rfl⟩
    | step p' q hp' _ ih =>
      rw [List.mem_singleton] at hp'
      subst hp'
      obtain ⟨k, hk, rfl⟩ := List.mem_map.1 ih
      have hk := List.mem_range.1 hk
      by_cases e : k + 1 = m
      · subst e
        exact List.mem_map.2 ⟨0, List.mem_range.2 h0, hm.symm⟩
      · exact List.mem_map.2 ⟨k + 1, List.mem_range.2 (by omega), rfl⟩
/-- a ring of p -/
def ringL (p : Nat) : List Int := (List.range p).map fun j : Nat => (((j + 1) % p : Nat) : Int)
def rotL (p : Nat) : List (List Int) := (List.range p).map (itT p (ringL p))
theorem pn_of {n : Nat} {p : List Int} (hl : p.length = n) (h1 : ∀ i, i < p.length → 0 ≤ nth p i ∧ nth p i < p.length) (h2 : ∀ i, i < p.length → ∀ j, j < p.length → nth p i = nth p j → i = j) : Pn n p := ⟨hl, isP_lit p h1 h2⟩
theorem ring2 : IsGrp 2 [ringL 2] (rotL 2) := oneGrp (pn_of (by decide) (by decide) (by decide)) (by decide) (by decide) (by decide)
theorem ring3 : IsGrp 3 [ringL 3] (rotL 3) := oneGrp (pn_of (by decide) (by decide) (by decide)) (by decide) (by decide) (by decide)
theorem ring5 : IsGrp 5 [ringL 5] (rotL 5) := oneGrp (pn_of (by decide) (by decide) (by decide)) (by decide) (by decide) (by decide)
theorem ringGrp {p : Nat} (h : p = 2 ∨ p = 3 ∨ p = 5) : IsGrp p [ringL p] (rotL p) := by
  rcases h with rfl | rfl | rfl
  · exact ring2
  · exact ring3
  · exact ring5
theorem ring_col : ∀ p ∈ [2, 3, 5], ∀ k, k < 11 → colS (rotL p) k (rotL p).length / (rotL p).length = k + (k ^ p - k) / p ∧ (k ^ p - k) % p = 0 ∧ k ≤ k ^ p := by decide +kernel
theorem ring_len (p : Nat) : (ringL p).length = p ∧ (rotL p).length = p := by simp [ringL, rotL]
theorem turns_col : colS (rotL 3) 2 (rotL 3).length / (rotL 3).length = 4 := by decide +kernel
end Go.Proofs.Ytooghdnlaonkaaa
/- castkeep.turns; the walk of OrbitsFermat. -/
namespace Go.Proofs.Ytooghdnlaonkaaa
open Go.RowKit

/-- one row in a row of its own -/
theorem rm_one {w0 w : World} {L : List Ent} {A B : Nat} {l : List Int} {n : Nat} (hl : l.length = n) (hF : Fr w0 w (⟨32, .slice (some ⟨B, 0, none⟩) 1 1, [.slice (some ⟨A, 0, none⟩) n n]⟩ :: ⟨3, .slice (some ⟨A, 0, none⟩) n n, ints l⟩ :: L)) :
    Rm w (some ⟨B, 0, none⟩) [(some ⟨A, 0, none⟩, n, l)] := by
  subst hl
  exact ⟨hF.get 0 rfl, fun p hp => by rw [List.mem_singleton] at hp; subst hp; exact hF.get 1 rfl⟩
set_option maxRecDepth 100000 in
set_option maxHeartbeats 8000000 in
theorem turnsOk (w : World) : Calls Try.prog 22 #[] w fun e w' => e = .returned (.bool true) ∧ Fr w w' [] := by
  obtain ⟨N, hN⟩ : ∃ N, w.heap.size = N := ⟨_, rfl⟩
  have h1 := (Fr.start w).lit' [1, 2, 0] #[.int .i64 1, .int .i64 2, .int .i64 0] rfl 3 rfl (by omega) 3 N hN
  have h2 := h1.new 32 #[.slice (some ⟨N, 0, none⟩) 3 3] [.slice (some ⟨N, 0, none⟩) 3 3] rfl 1 rfl (by omega)
  have e1 : (w.alloc (.cells #[.int .i64 1, .int .i64 2, .int .i64 0] 3)).heap.size = N + 1 := by simp [hN]
  rw [e1] at h2
  have hA : AllPn 3 (lsR [((some ⟨N, 0, none⟩, 3, [1, 2, 0]) : Rw)]) := fun p hp => by
    have hp : p ∈ [[1, 2, 0]] := hp
    rw [List.mem_singleton] at hp; subst hp
    exact ring3.gens _ (by decide)
  have HC := Lib.hid (orbCol 3 [(some ⟨N, 0, none⟩, 3, [1, 2, 0])] 1 _ 1 2 _ (rm_one rfl h2) rfl (by omega) (by omega) hA (by omega))
  have HF2 := Lib.hid h2
  clear h1 h2 hA e1
  go_enter Try.func22, Try.ntmps22
  go_wp2_with fail
  refine HC.out.mono ?_; rintro e w1 ⟨G, hg, rfl, hf1⟩
  obtain rfl : rotL 3 = G := IsGrp.uniq hg ring3
  rw [turns_col]
  have HF3 := Lib.hid (HF2.out.keep hf1.bel).below
  clear hf1 hg HC HF2
  obtain ⟨M, hM⟩ : ∃ M, w1.heap.size = M := ⟨_, rfl⟩
  have h1 := HF3.out.lit' [1, 2, 0] #[.int .i64 1, .int .i64 2, .int .i64 0] rfl 3 rfl (by omega) 3 M hM
  have h2 := h1.new 32 #[.slice (some ⟨M, 0, none⟩) 3 3] [.slice (some ⟨M, 0, none⟩) 3 3] rfl 1 rfl (by omega)
  have e1 : (w1.alloc (.cells #[.int .i64 1, .int .i64 2, .int .i64 0] 3)).heap.size = M + 1 := by simp [hM]
  rw [e1] at h2
  have hA : AllPn 3 (lsR [((some ⟨M, 0, none⟩, 3, [1, 2, 0]) : Rw)]) := fun p hp => by
    have hp : p ∈ [[1, 2, 0]] := hp
    rw [List.mem_singleton] at hp; subst hp
    exact ring3.gens _ (by decide)
  have HG := Lib.hid (orbGroup 3 [(some ⟨M, 0, none⟩, 3, [1, 2, 0])] 1 _ 1 _ (rm_one rfl h2) rfl (by omega) (by omega) hA)
  have HF4 := Lib.hid h2
  clear h1 h2 hA e1
  go_wp2_with fail
  refine HG.out.mono ?_; rintro e w2 ⟨ad, cp, R, rfl, hf2, hg⟩
  have hR : R.length = 3 := by
    have := IsGrp.uniq hg ring3
    rw [← lsR_len, ← this]; rfl
  rw [hR]
  have HF5 := Lib.hid (HF4.out.keep hf2.bel).below
  clear hf2 hg hR HG HF4
  go_wp2_with fail
  refine (good2b _ w2.heap.size _ rfl).mono ?_; rintro e w' ⟨rfl, rfl⟩
  have HF6 := Lib.hid (HF5.out.alloc (.cells #[.int .i64 0, .int .i64 0] 33))
  go_wp2_with fail
  go_ret
  exact ⟨rfl, HF6.out⟩
end Go.Proofs.Ytooghdnlaonkaaa
