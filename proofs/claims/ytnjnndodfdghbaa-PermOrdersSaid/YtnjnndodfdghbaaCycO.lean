/- Plain law of the order of an order; contracts of perm.Order and of slices.IsSorted over any ints. -/
import Derived.Test.YtnjnndodfdghbaaCyc2
import Derived.Test.YtnjnndodfdghbaaNext
namespace Go.Proofs.Ytnjnndodfdghbaa
open Go.RowKit

theorem sumN_pos {F : Nat → Nat} : ∀ n, 0 < sumN F n → ∃ i, i < n ∧ 0 < F i
  | 0, h => by simp [sumN] at h
  | n + 1, h => by
    by_cases hf : 0 < F n
    · exact ⟨n, by omega, hf⟩
    · rw [sumN] at h
      obtain ⟨i, hi, e⟩ := sumN_pos (F := F) n (by omega)
      exact ⟨i, by omega, e⟩
theorem sumN_has {F : Nat → Nat} : ∀ n i, i < n → F i ≤ sumN F n
  | 0, i, h => by omega
  | n + 1, i, h => by
    rw [sumN]
    by_cases e : i = n
    · subst e; omega
    · have := sumN_has (F := F) n i (by omega); omega
theorem CycOk.mem {p : List Int} {out : List Nat} (h : CycOk p out) {x : Nat} (hx : x ∈ out) : ∃ v, v < p.length ∧ ol p v = x := by
  have e := h.sum (fun y => if y = x then 1 else 0)
  rw [sum_pick] at e
  have hc := List.count_pos_iff.2 hx
  have h1 := (h.pos x hx).1
  have : 0 < x * out.count x := Nat.mul_pos h1 hc
  rw [e] at this
  obtain ⟨v, hv, h2⟩ := sumN_pos _ this
  refine ⟨v, hv, ?_⟩
  by_cases c : ol p v = x
  · exact c
  · rw [if_neg c] at h2; omega
theorem CycOk.has {p : List Int} {out : List Nat} (h : CycOk p out) {v : Nat} (hv : v < p.length) : ol p v ∈ out := by
  have e := h.sum (fun y => if y = ol p v then 1 else 0)
  rw [sum_pick] at e
  have h1 := sumN_has (F := fun u => if ol p u = ol p v then 1 else 0) p.length v hv
  simp only [if_true] at h1
  rw [← e] at h1
  refine List.count_pos_iff.1 ?_
  rcases Nat.eq_zero_or_pos (out.count (ol p v)) with h0 | h0
  · rw [h0] at h1; omega
  · exact h0
/-- the numbers of a list, each in the next: their least common multiple -/
def lcK (l : List Int) : Nat → Nat
  | 0 => 1
  | i + 1 => Nat.lcm (lcK l i) (nth l i).toNat
theorem lcK_dvd (l : List Int) (m : Nat) : ∀ i, (∀ j, j < i → (nth l j).toNat ∣ m) → lcK l i ∣ m
  | 0, _ => Nat.one_dvd m
  | i + 1, h => Nat.lcm_dvd (lcK_dvd l m i fun j hj => h j (by omega)) (h i (by omega))
theorem dvd_lcK (l : List Int) : ∀ i j, j < i → (nth l j).toNat ∣ lcK l i
  | 0, j, h => by omega
  | i + 1, j, h => by
    by_cases e : j = i
    · subst e; exact Nat.dvd_lcm_right _ _
    · exact Nat.dvd_trans (dvd_lcK l i j (by omega)) (Nat.dvd_lcm_left _ _)
theorem lcm_quo (o x : Nat) : o / Nat.gcd o x * x = Nat.lcm o x := by
  rw [Nat.lcm, Nat.div_mul_right_comm (Nat.gcd_dvd_left o x)]
theorem small_dvd : ∀ d : Nat, 1 ≤ d → d ≤ 10 → d ∣ 2520 := by
  intro d h1 h2
  have : d = 1 ∨ d = 2 ∨ d = 3 ∨ d = 4 ∨ d = 5 ∨ d = 6 ∨ d = 7 ∨ d = 8 ∨ d = 9 ∨ d = 10 := by omega
  rcases this with rfl | rfl | rfl | rfl | rfl | rfl | rfl | rfl | rfl | rfl <;> decide
/-- what perm.Order has found -/
structure OrdOk (p : List Int) (o : Nat) : Prop where
  one : 1 ≤ o
  le : o ≤ 2520
  iff : ∀ m, o ∣ m ↔ ∀ v, v < p.length → ol p v ∣ m
theorem ordOk_of {p : List Int} {out : List Nat} (h : CycOk p out) (h10 : p.length ≤ 10) : OrdOk p (lcK (cycL out) (cycL out).length) := by
  have hm : ∀ x : Nat, x ∈ out ↔ (x : Int) ∈ cycL out := fun x => by
    rw [← (cycL_perm out).mem_iff, natI]
    constructor
    · intro hx; exact List.mem_map.2 ⟨x, hx, rfl⟩
    · intro hx; obtain ⟨y, hy, e⟩ := List.mem_map.1 hx; have : y = x := by omega
      rw [← this]; exact hy
  have ha : ∀ j, j < (cycL out).length → (nth (cycL out) j).toNat ∈ out := fun j hj => by
    have := nth_mem (cycL out) j hj
    rw [← (cycL_perm out).mem_iff, natI] at this
    obtain ⟨y, hy, e⟩ := List.mem_map.1 this
    rw [← e, Int.toNat_natCast]; exact hy
  have hiff : ∀ m, lcK (cycL out) (cycL out).length ∣ m ↔ ∀ v, v < p.length → ol p v ∣ m := fun m => by
    constructor
    · intro hd v hv
      obtain ⟨j, hj, e⟩ := List.getElem_of_mem ((hm _).1 (h.has hv))
      have e2 : (nth (cycL out) j).toNat = ol p v := by simp [nth, hj, e]
      have := dvd_lcK (cycL out) (cycL out).length j hj
      rw [e2] at this
      exact Nat.dvd_trans this hd
    · intro hall
      refine lcK_dvd _ _ _ fun j hj => ?_
      obtain ⟨v, hv, e⟩ := h.mem (ha j hj)
      rw [← e]; exact hall v hv
  have hd : lcK (cycL out) (cycL out).length ∣ 2520 := lcK_dvd _ _ _ fun j hj => by
    have := h.pos _ (ha j hj)
    exact small_dvd _ this.1 (by omega)
  exact ⟨Nat.pos_of_dvd_of_pos hd (by decide), Nat.le_of_dvd (by decide) hd, hiff⟩

set_option maxRecDepth 100000 in
set_option maxHeartbeats 4000000 in
theorem order_any (p : List Int) (n : Nat) (a : Option Addr) (cap : Nat) (w : World) (h : Sa w a (ints p)) (hn : p.length = n) (hp : IsP p) (h10 : n ≤ 10) :
    Calls Try.prog 44 #[.slice a n cap] w fun e w' => (∃ o : Nat, e = .returned (.tuple #[.int .i64 o, .int .i64 0]) ∧ OrdOk p o) ∧ Below w.heap.size w w' := by
  have HS := Lib.hid h; have HN := Lib.hid hn; have HP := Lib.hid hp
  clear h hp hn
  go_enter Try.func44, Try.ntmps44
  go_wp2_with fail
  refine (cycles_any p n _ _ _ HS.out HN.out HP.out h10).mono ?_; rintro e w1 ⟨ad, cp, out, rfl, hok, hfr⟩
  have HO := Lib.hid (ordOk_of hok (by rw [HN.out]; exact h10))
  have hle := hok.le
  rw [HN.out] at hle
  have HL := Lib.hid (cycL_len out)
  have HB : Hid (∀ j, j < (cycL out).length → ∃ x : Nat, nth (cycL out) j = x ∧ 1 ≤ x ∧ x ≤ 10) := Lib.hid fun j hj => by
    have h1 := nth_mem (cycL out) j hj
    rw [← (cycL_perm out).mem_iff, natI] at h1
    obtain ⟨y, hy, e⟩ := List.mem_map.1 h1
    have := hok.pos y hy
    have h2 := HN.out
    exact ⟨y, e.symm, by omega, by omega⟩
  have HD : Hid (∀ j, j ≤ (cycL out).length → 1 ≤ lcK (cycL out) j ∧ lcK (cycL out) j ≤ 2520) := Lib.hid fun j hj => by
    have hd : lcK (cycL out) j ∣ 2520 := lcK_dvd _ _ _ fun i hi => by
      obtain ⟨x, e, x1, x2⟩ := HB.out i (by omega)
      rw [e, Int.toNat_natCast]; exact small_dvd _ x1 x2
    exact ⟨Nat.pos_of_dvd_of_pos hd (by decide), Nat.le_of_dvd (by decide) hd⟩
  have HF := Lib.hid hfr
  obtain ⟨L, hL⟩ : ∃ L, cycL out = L := ⟨_, rfl⟩
  obtain ⟨M, hM⟩ : ∃ M, out.length = M := ⟨_, rfl⟩
  rw [hL] at HO HL HB HD HF
  rw [hM] at HL hle HF ⊢
  clear hok hfr hL hM
  have d0 : M ≤ 10 := by omega
  go_wp2_with fail
  go_loopw [6, 21] (fun o i wr => ∃ (j q : Nat), j ≤ M ∧ i = .int .i64 j ∧ o = .int .i64 q ∧ Hid (q = lcK L j) ∧ Fr w wr [⟨3, .slice ad M cp, ints L⟩]) (fun _ i _ => M - (intOf i).toNat)
  case atStart => exact ⟨0, 1, by omega, rfl, rfl, Lib.hid rfl, HF.out⟩
  case round =>
    obtain ⟨j, q, hj, rfl, rfl, HQ, hfr⟩ := hrel
    by_cases hlt : j < M
    · obtain ⟨g, rfl, hg, c0, f0⟩ := hfr.openI j (by rw [HL.out]; exact hlt)
      obtain ⟨x, hx, x1, x2⟩ := HB.out j (by rw [HL.out]; exact hlt)
      have hq := HD.out j (by rw [HL.out]; exact hj)
      have hq2 := HD.out (j + 1) (by rw [HL.out]; exact hlt)
      rw [← HQ.out] at hq
      obtain ⟨q1, q2⟩ := hq
      have hst : lcK L (j + 1) = q / Nat.gcd q x * x := by rw [lcK, ← HQ.out, hx, Int.toNat_natCast, lcm_quo]
      rw [hst] at hq2
      have HST := Lib.hid hst
      rw [hx] at c0
      have HF2 := Lib.hid hfr
      have e1 : (0 : Int) ≤ (j : Int) := by omega
      have e2 : (j : Int) < (M : Int) := by omega
      clear hfr hx hst
      go_wp2_with fail
      clear c0 f0 hg
      go_loopw [9, 10] (fun a b wr => ∃ s t : Nat, s ≤ 2520 ∧ t ≤ 2520 ∧ Hid (Nat.gcd s t = Nat.gcd q x) ∧ a = .int .i64 s ∧ b = .int .i64 t ∧ Fr w wr [⟨3, .slice (some ⟨g, 0, .none⟩) M cp, ints L⟩]) (fun _ b _ => (intOf b).toNat)
      case atStart => exact ⟨q, x, by omega, by omega, Lib.hid rfl, rfl, rfl, HF2.out⟩
      case round =>
        obtain ⟨s, t, hs, ht, hgc, rfl, rfl, hfr⟩ := hrel
        have HF5 := Lib.hid hfr; clear hfr
        by_cases ht0 : 0 < t
        · have hne : ((t : Int) == 0) = false := by simp; omega
          have hlt := Nat.mod_lt s ht0
          go_wp2_with fail
          go_region
          go_wp2_with fail
          go_roundw
          case rel =>
            refine ⟨t, s % t, ht, by omega, Lib.hid ?_, rfl, val_int (by simp), HF5.out.drew⟩
            rw [← hgc.out, Nat.gcd_comm s t, Nat.gcd_rec t s, Nat.gcd_comm]
          case measure => simp [intOf]; omega
        · obtain rfl : t = 0 := by omega
          have hg : s = Nat.gcd q x := by rw [← hgc.out, Nat.gcd_zero_right]
          have hgp : 0 < Nat.gcd q x := Nat.gcd_pos_of_pos_left _ q1
          rw [← hg] at hq2 HST hgp
          obtain ⟨r, hr⟩ : ∃ r, q / s = r := ⟨_, rfl⟩
          rw [hr] at hq2 HST
          have e3 : (q : Int) / (s : Int) = (r : Int) := by rw [← hr]; rfl
          have hs0 : 0 < s := hgp
          have hr2 : r ≤ 2520 := by
            have := Nat.div_le_self q s
            omega
          obtain ⟨y, hy⟩ : ∃ y, r * x = y := ⟨_, rfl⟩
          rw [hy] at hq2 HST
          have e4 : (r : Int) * (x : Int) = (y : Int) := by rw [← hy]; simp
          have hne : ((s : Int) == 0) = false := by simp; omega
          have hy2 : y ≤ 2520 := hq2.2
          clear hg hgp hgc hr hy hq2
          go_wp2_with fail
          exact ⟨⟨j + 1, y, by omega, by simp, by simp, Lib.hid HST.out.symm, HF5.out⟩, by simp only [intOf]; omega⟩
    · obtain rfl : j = M := by omega
      have HFB := Lib.hid hfr.bel
      have hor := HO.out
      rw [HL.out, ← HQ.out] at hor
      have HOR := Lib.hid hor
      clear hor hfr
      go_wp2_with fail
      go_ret2
      exact ⟨⟨q, rfl, HOR.out⟩, HFB.out⟩

theorem less_intB (x y : Int) (b : Bool) (hb : decide (x < y) = b) (w : World) : Calls Try.prog 53 #[.int .i64 x, .int .i64 y] w fun e w' => e = .returned (.bool b) ∧ w = w' := by
  go_enter Try.func53, Try.ntmps53
  cases b <;>
  · go_wp2_with (go_at_call 59; refine (isNaN_int _ _).mono ?_; rintro e w' ⟨rfl, rfl⟩)
    go_ret
    exact ⟨by simp, rfl⟩
def SrtB (l : List Int) (n : Nat) (w : World) (e : Ending) (w' : World) : Prop := ∃ r : Bool, e = .returned (.bool r) ∧ (r = true ↔ ∀ i, i + 1 < n → nth l i ≤ nth l (i + 1)) ∧ Fr w w' []
set_option maxRecDepth 100000 in
set_option maxHeartbeats 1000000 in
theorem slSortedB (l : List Int) (n : Nat) (a : Option Addr) (cap : Nat) (w : World) (h : Sa w a (ints l)) (hn : l.length = n) (hl : n ≤ 1000000) :
    Calls Try.prog 29 #[.slice a n cap] w (SrtB l n w) := by
  have HN := Lib.hid hn; have HS := Lib.hid h
  clear hn h
  go_enter Try.func29, Try.ntmps29
  go_wp2_with fail
  go_loopw [3] (fun i wr => ∃ v : Int, i = .int .i64 v ∧ -1 ≤ v ∧ v < n ∧ Hid (∀ i : Nat, v ≤ i → i + 1 < n → nth l i ≤ nth l (i + 1)) ∧ Fr w wr []) (fun i _ => (intOf i).toNat)
  case atStart => exact ⟨_, rfl, by omega, by omega, Lib.hid fun i h1 h2 => by omega, Fr.start w⟩
  case round =>
    obtain ⟨v, rfl, v1, v2, HA, hfr⟩ := hrel
    by_cases h0 : 0 < v
    · obtain ⟨k, rfl⟩ : ∃ k : Nat, v = (k : Int) + 1 := ⟨(v - 1).toNat, by omega⟩
      have hk : k + 1 < n := by omega
      obtain ⟨b1, o1, rfl, hb1, c1⟩ := (hfr.old HS.out).int (k + 1) (by rw [HN.out]; exact hk)
      obtain ⟨b2, o2, e, hb2, c2⟩ := (hfr.old HS.out).int k (by rw [HN.out]; omega)
      cases e
      have HST : Hid (nth l k ≤ nth l (k + 1) → ∀ i : Nat, (k : Int) ≤ i → i + 1 < n → nth l i ≤ nth l (i + 1)) := Lib.hid fun hle i h1 h2 => by
        by_cases e : i = k
        · subst e; exact hle
        · exact HA.out i (by omega) h2
      have HNO : Hid (¬ nth l k ≤ nth l (k + 1) → ¬ ∀ i, i + 1 < n → nth l i ≤ nth l (i + 1)) := Lib.hid fun hle hall => hle (hall k hk)
      obtain ⟨x, hx⟩ : ∃ x, nth l (k + 1) = x := ⟨_, rfl⟩
      obtain ⟨y, hy⟩ : ∃ y, nth l k = y := ⟨_, rfl⟩
      rw [hx] at c1 HST HNO
      rw [hy] at c2 HST HNO
      have e1 : (k : Int) + 1 - 1 = (k : Int) := by omega
      have d3 : (0 : Int) ≤ (k : Int) + 1 := by omega
      have d4 : (k : Int) + 1 < (n : Int) := by omega
      have d1 : (0 : Int) ≤ (k : Int) := by omega
      have d2 : (k : Int) < (n : Int) := by omega
      clear hx hy
      by_cases hxy : x < y
      · have HB := Lib.hid (decide_eq_true hxy)
        have HR := Lib.hid (HNO.out (by omega))
        clear hxy
        go_wp2_with fail
        go_quiet ((go_at_call 53; exact Calls.quiet_of_same ((less_intB _ _ _ HB.out _).mono fun _ _ ⟨a, b⟩ => ⟨a, b.symm⟩)))
        go_wp2_with fail
        go_ret
        exact ⟨false, rfl, ⟨fun h => (by cases h), fun h => absurd h HR.out⟩, hfr.drewN _⟩
      · have HB := Lib.hid (decide_eq_false hxy)
        have HR := Lib.hid (HST.out (by omega))
        clear hxy
        go_wp2_with fail
        go_quiet ((go_at_call 53; exact Calls.quiet_of_same ((less_intB _ _ _ HB.out _).mono fun _ _ ⟨a, b⟩ => ⟨a, b.symm⟩)))
        go_wp2_with fail
        exact ⟨⟨_, rfl, by omega, by omega, HR, hfr.drewN _⟩, by simp only [intOf]; omega⟩
    · have h0 : v ≤ 0 := by omega
      have HR : Hid (∀ i, i + 1 < n → nth l i ≤ nth l (i + 1)) := Lib.hid fun i hi => HA.out i (by omega) hi
      go_wp2_with fail
      go_ret
      exact ⟨true, rfl, ⟨fun _ => HR.out, fun _ => rfl⟩, hfr⟩
end Go.Proofs.Ytnjnndodfdghbaa
