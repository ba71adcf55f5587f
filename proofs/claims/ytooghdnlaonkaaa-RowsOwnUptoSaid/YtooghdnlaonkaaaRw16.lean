/- Several of my texts in one: Grp. -/
import Derived.Test.YtooghdnlaonkaaaRw12
import Derived.Test.YtooghdnlaonkaaaRw15
/- Orders, one behind the other, and undone: plain laws, contracts of perm.Times and perm.Inverse. -/
namespace Go.Proofs.Ytooghdnlaonkaaa
open Go.RowKit

def fillK (f : Nat → Int) (n k : Nat) : List Int := (List.range n).map fun i => if i < k then f i else 0
theorem fillK_len (f : Nat → Int) (n k : Nat) : (fillK f n k).length = n := by simp [fillK]
theorem fillK_nth (f : Nat → Int) (n k i : Nat) (h : i < n) : nth (fillK f n k) i = if i < k then f i else 0 := by simp [fillK, nth, h]
theorem fillK_zero (f : Nat → Int) (n : Nat) : List.replicate n 0 = fillK f n 0 := ext_nth (by simp [fillK]) (fun i hi => by
  rw [List.length_replicate] at hi
  rw [nth_rep _ _ _ hi, fillK_nth _ _ _ _ hi, if_neg (by omega)])
theorem fillK_set (f : Nat → Int) (n k : Nat) (h : k < n) : (fillK f n k).set k (f k) = fillK f n (k + 1) := ext_nth (by simp [fillK]) (fun i hi => by
  rw [List.length_set, fillK_len] at hi
  rw [nth_set _ _ _ _ (by rw [fillK_len]; exact h), fillK_nth _ _ _ _ hi, fillK_nth _ _ _ _ hi]
  by_cases e : i = k
  · subst e; rw [if_pos rfl, if_pos (by omega)]
  · rw [if_neg e]
    by_cases h2 : i < k
    · rw [if_pos h2, if_pos (by omega)]
    · rw [if_neg h2, if_neg (by omega)])
def tmL (a b : List Int) : List Int := fillK (fun i => nth a (nth b i).toNat) b.length b.length
theorem tmL_len (a b : List Int) : (tmL a b).length = b.length := fillK_len _ _ _
theorem tmL_nth (a b : List Int) (i : Nat) (h : i < b.length) : nth (tmL a b) i = nth a (nth b i).toNat := by
  unfold tmL; rw [fillK_nth _ _ _ _ h, if_pos h]
theorem IsP.at {p : List Int} (h : IsP p) (i : Nat) (hi : i < p.length) : (nth p i).toNat < p.length ∧ ((nth p i).toNat : Int) = nth p i := by
  have := h.bd i hi; omega
theorem tm_isP {a b : List Int} (ha : IsP a) (hb : IsP b) (hl : a.length = b.length) : IsP (tmL a b) := by
  refine ⟨fun i hi => ?_, fun i j hi hj e => ?_⟩
  · rw [tmL_len] at hi ⊢
    rw [tmL_nth _ _ _ hi, ← hl]
    exact ha.bd _ (by rw [hl]; exact (hb.at i hi).1)
  · rw [tmL_len] at hi hj
    rw [tmL_nth _ _ _ hi, tmL_nth _ _ _ hj] at e
    have h1 := ha.inj _ _ (by rw [hl]; exact (hb.at i hi).1) (by rw [hl]; exact (hb.at j hj).1) e
    exact hb.inj i j hi hj (by have := (hb.at i hi).2; have := (hb.at j hj).2; omega)
/-- undone, as far as the first k places tell -/
def invK (p : List Int) (n : Nat) : Nat → List Int
  | 0 => List.replicate n 0
  | k + 1 => (invK p n k).set (nth p k).toNat (k : Int)
theorem invK_len (p : List Int) (n : Nat) : ∀ k, (invK p n k).length = n
  | 0 => by simp [invK]
  | k + 1 => by rw [invK, List.length_set, invK_len p n k]
theorem invK_at {p : List Int} (h : IsP p) : ∀ k, k ≤ p.length → ∀ i, i < k → nth (invK p p.length k) (nth p i).toNat = i
  | 0, _, i, hi => by omega
  | k + 1, hk, i, hi => by
    rw [invK, nth_set _ _ _ _ (by rw [invK_len]; exact (h.at k (by omega)).1)]
    by_cases e : i = k
    · subst e; rw [if_pos rfl]
    · rw [if_neg (fun e2 => e (h.inj i k (by omega) (by omega) (by have := (h.at i (by omega)).2; have := (h.at k (by omega)).2; omega)))]
      exact invK_at h k (by omega) i (by omega)
def invL (p : List Int) : List Int := invK p p.length p.length
theorem invL_len (p : List Int) : (invL p).length = p.length := invK_len _ _ _
theorem invL_at {p : List Int} (h : IsP p) (i : Nat) (hi : i < p.length) : nth (invL p) (nth p i).toNat = i := invK_at h p.length (Nat.le_refl _) i hi
theorem isP_get {p : List Int} (h : IsP p) (v : Nat) (hv : v < p.length) : ∃ i, i < p.length ∧ (nth p i).toNat = v := by
  obtain ⟨x, hx, e⟩ := isP_has rfl h v hv
  exact ⟨x, hx, by omega⟩
theorem inv_isP {p : List Int} (h : IsP p) : IsP (invL p) := by
  refine ⟨fun v hv => ?_, fun v u hv hu e => ?_⟩
  · rw [invL_len] at hv ⊢
    obtain ⟨i, hi, rfl⟩ := isP_get h v hv
    rw [invL_at h i hi]; omega
  · rw [invL_len] at hv hu
    obtain ⟨i, hi, rfl⟩ := isP_get h v hv
    obtain ⟨j, hj, rfl⟩ := isP_get h u hu
    rw [invL_at h i hi, invL_at h j hj] at e
    rw [show i = j from by omega]
theorem tm_assoc {a b c : List Int} (_ha : IsP a) (_hb : IsP b) (hc : IsP c) (n : Nat) (_la : a.length = n) (lb : b.length = n) (lc : c.length = n) : tmL (tmL a b) c = tmL a (tmL b c) :=
  ext_nth (by rw [tmL_len, tmL_len, tmL_len]) (fun i hi => by
    rw [tmL_len] at hi
    have := hc.at i hi
    rw [tmL_nth _ _ _ hi, tmL_nth _ _ _ (by omega), tmL_nth _ _ _ (by rw [tmL_len]; exact hi), tmL_nth _ _ _ hi])
theorem tm_inv_left {a : List Int} (ha : IsP a) (i : Nat) (hi : i < a.length) : nth (tmL (invL a) a) i = i := by
  rw [tmL_nth _ _ _ hi, invL_at ha i hi]
theorem tm_inv_right {a : List Int} (ha : IsP a) (v : Nat) (hv : v < a.length) : nth (tmL a (invL a)) v = v := by
  rw [tmL_nth _ _ _ (by rw [invL_len]; exact hv)]
  obtain ⟨i, hi, rfl⟩ := isP_get ha v hv
  rw [invL_at ha i hi, Int.toNat_natCast, (ha.at i hi).2]
theorem tm_inv_both {a : List Int} (ha : IsP a) : tmL a (invL a) = tmL (invL a) a := ext_nth (by rw [tmL_len, tmL_len, invL_len]) (fun i hi => by
  rw [tmL_len, invL_len] at hi
  rw [tm_inv_left ha i hi, tm_inv_right ha i hi])
theorem inv_tm {a b : List Int} (ha : IsP a) (hb : IsP b) (n : Nat) (la : a.length = n) (lb : b.length = n) : invL (tmL a b) = tmL (invL b) (invL a) := by
  have hab := tm_isP ha hb (by omega)
  have lab : (tmL a b).length = n := by rw [tmL_len, lb]
  refine ext_nth (by rw [invL_len, tmL_len, tmL_len, invL_len]; omega) (fun v hv => ?_)
  rw [invL_len, lab] at hv
  obtain ⟨i, hi, e⟩ := isP_get hab v (by omega)
  rw [lab] at hi
  rw [tmL_nth _ _ _ (by rw [invL_len]; omega), ← e, invL_at hab i (by omega), tmL_nth _ _ _ (by omega), invL_at ha _ (by have := hb.at i (by omega); omega), Int.toNat_natCast, invL_at hb i (by omega)]

set_option maxRecDepth 100000 in
set_option maxHeartbeats 4000000 in
theorem permTimes (p q : List Int) (n : Nat) (a b : Option Addr) (ca cb : Nat) (w : World) (h : Sa w a (ints p)) (hn : p.length = n) (hp : IsP p) (h' : Sa w b (ints q)) (hn' : q.length = n) (hq : IsP q) (h10 : n ≤ 10) :
    Calls Try.prog 49 #[.slice a n ca, .slice b n cb] w (OneSl (tmL p q) n 0 w) := by
  have HN := Lib.hid hn; have HS := Lib.hid h; have HP := Lib.hid hp; have HN' := Lib.hid hn'; have HS' := Lib.hid h'; have HQ := Lib.hid hq
  have hmk := make_ints n (by omega)
  have HT : Hid (fillK (fun i => nth p (nth q i).toNat) n n = tmL p q) := Lib.hid (by unfold tmL; rw [hn'])
  clear hn h hp hn' h' hq
  go_enter Try.func49, Try.ntmps49
  go_wp2_with fail
  refine (permChk p n _ _ _ HS.out HN.out HP.out h10).mono ?_; rintro e w1 ⟨rfl, F1⟩
  go_wp2_with fail
  refine (permChk q n _ _ _ (F1.old HS'.out) HN'.out HQ.out h10).mono ?_; rintro e w2 ⟨rfl, hf⟩
  have F2 := F1.call hf
  clear F1 hf
  have zn : ((n : Int) != (n : Int)) = false := by simp
  go_wp2_with fail
  clear zn
  have F3 := F2.makeInts n (by omega)
  rw [fillK_zero (fun i => nth p (nth q i).toNat) n] at F3
  obtain ⟨G, hG⟩ : ∃ G, w2.heap.size = G := ⟨_, rfl⟩
  rw [hG] at F3 ⊢
  clear hmk
  go_loopw [31] (fun i wr => ∃ k : Nat, k ≤ n ∧ i = .int .i64 k ∧ Fr w wr [⟨3, .slice (some ⟨G, 0, none⟩) n n, ints (fillK (fun i => nth p (nth q i).toNat) n k)⟩]) (fun i _ => n - (intOf i).toNat)
  case atStart => exact ⟨0, by omega, rfl, by simpa using F3⟩
  case round =>
    obtain ⟨k, hk, rfl, hfr⟩ := hrel
    clear F2 F3
    by_cases hlt : k < n
    · obtain ⟨b2, o2, rfl, hb2, c2⟩ := (hfr.old HS'.out).int k (by rw [HN'.out]; exact hlt)
      have hx := HQ.out.at k (by rw [HN'.out]; exact hlt)
      rw [HN'.out] at hx
      obtain ⟨x, hxx⟩ : ∃ x, (nth q k).toNat = x := ⟨_, rfl⟩
      have hst := fillK_set (fun i => nth p (nth q i).toNat) n k hlt
      rw [hxx] at hx hst
      rw [← hx.2] at c2
      obtain ⟨b3, o3, rfl, hb3, c3⟩ := (hfr.old HS.out).int x (by rw [HN.out]; exact hx.1)
      obtain ⟨_, e, _, c1, z1⟩ := hfr.openI k (by rw [fillK_len]; exact hlt)
      cases e
      obtain ⟨y, hy⟩ : ∃ y, nth p x = y := ⟨_, rfl⟩
      rw [hy] at c3 hst
      have F4 := hfr.setInt k y
      rw [hst] at F4
      have HF4 := Lib.hid F4
      have xn := hx.1
      clear hfr hx hxx hst F4 hy
      obtain ⟨u, hu⟩ : ∃ u, nth (fillK (fun i => nth p (nth q i).toNat) n k) k = u := ⟨_, rfl⟩
      rw [hu] at c1
      clear hu
      have d1 : (0 : Int) ≤ (k : Int) := by omega
      have d2 : (k : Int) < (n : Int) := by omega
      have d3 : (0 : Int) ≤ (x : Int) := by omega
      have d4 : (x : Int) < (n : Int) := by omega
      go_wp2_with fail
      exact ⟨⟨k + 1, by omega, by simp, HF4.out⟩, by simp only [intOf]; omega⟩
    · obtain rfl : k = n := by omega
      rw [HT.out] at hfr
      go_wp2_with fail
      go_ret2
      exact ⟨_, _, rfl, Nat.le_refl _, hfr⟩

set_option maxRecDepth 100000 in
set_option maxHeartbeats 4000000 in
theorem permInv (p : List Int) (n : Nat) (a : Option Addr) (ca : Nat) (w : World) (h : Sa w a (ints p)) (hn : p.length = n) (hp : IsP p) (h10 : n ≤ 10) :
    Calls Try.prog 50 #[.slice a n ca] w (OneSl (invL p) n 0 w) := by
  have HN := Lib.hid hn; have HS := Lib.hid h; have HP := Lib.hid hp
  have hmk := make_ints n (by omega)
  have HT : Hid (invK p n n = invL p) := Lib.hid (by unfold invL; rw [hn])
  have H0 : Hid (List.replicate n 0 = invK p n 0) := Lib.hid rfl
  clear hn h hp
  go_enter Try.func50, Try.ntmps50
  go_wp2_with fail
  refine (permChk p n _ _ _ HS.out HN.out HP.out h10).mono ?_; rintro e w1 ⟨rfl, F1⟩
  go_wp2_with fail
  have F3 := F1.makeInts n (by omega)
  rw [H0.out] at F3
  obtain ⟨G, hG⟩ : ∃ G, w1.heap.size = G := ⟨_, rfl⟩
  rw [hG] at F3 ⊢
  clear hmk
  go_loopw [18] (fun i wr => ∃ k : Nat, k ≤ n ∧ i = .int .i64 k ∧ Fr w wr [⟨3, .slice (some ⟨G, 0, none⟩) n n, ints (invK p n k)⟩]) (fun i _ => n - (intOf i).toNat)
  case atStart => exact ⟨0, by omega, rfl, by simpa using F3⟩
  case round =>
    obtain ⟨k, hk, rfl, hfr⟩ := hrel
    clear F1 F3
    by_cases hlt : k < n
    · obtain ⟨b2, o2, rfl, hb2, c2⟩ := (hfr.old HS.out).int k (by rw [HN.out]; exact hlt)
      have hx := HP.out.at k (by rw [HN.out]; exact hlt)
      rw [HN.out] at hx
      have hst : (invK p n k).set (nth p k).toNat (k : Int) = invK p n (k + 1) := rfl
      obtain ⟨x, hxx⟩ : ∃ x, (nth p k).toNat = x := ⟨_, rfl⟩
      rw [hxx] at hx hst
      rw [← hx.2] at c2
      obtain ⟨_, e, _, c1, z1⟩ := hfr.openI x (by rw [invK_len]; exact hx.1)
      cases e
      have F4 := hfr.setInt x (k : Int)
      rw [hst] at F4
      have HF4 := Lib.hid F4
      have xn := hx.1
      clear hfr hx hxx hst F4
      obtain ⟨u, hu⟩ : ∃ u, nth (invK p n k) x = u := ⟨_, rfl⟩
      rw [hu] at c1
      clear hu
      have d1 : (0 : Int) ≤ (k : Int) := by omega
      have d2 : (k : Int) < (n : Int) := by omega
      have d3 : (0 : Int) ≤ (x : Int) := by omega
      have d4 : (x : Int) < (n : Int) := by omega
      go_wp2_with fail
      exact ⟨⟨k + 1, by omega, by simp, HF4.out⟩, by simp only [intOf]; omega⟩
    · obtain rfl : k = n := by omega
      rw [HT.out] at hfr
      go_wp2_with fail
      go_ret2
      exact ⟨_, _, rfl, Nat.le_refl _, hfr⟩
end Go.Proofs.Ytooghdnlaonkaaa
