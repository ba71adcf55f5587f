/- The walk of the law PermOrders. -/
import Derived.Test.YtnjnndodfdghbaaCycO
import Derived.Test.YtnjnndodfdghbaaWGrp
import Derived.RegionTactic
namespace Go.Proofs.Ytnjnndodfdghbaa
open Go.RowKit

def itL (p : List Int) (k : Nat) : List Int := (List.range p.length).map fun v => ((itP p k v : Nat) : Int)
theorem itL_len (p : List Int) (k : Nat) : (itL p k).length = p.length := by simp [itL]
theorem itL_nth (p : List Int) (k v : Nat) (h : v < p.length) : nth (itL p k) v = ((itP p k v : Nat) : Int) := by simp [itL, nth, h]
theorem itL_isP {p : List Int} (h : IsP p) (k : Nat) : IsP (itL p k) := by
  refine ⟨fun i hi => ?_, fun i j hi hj e => ?_⟩
  · rw [itL_len] at hi ⊢
    rw [itL_nth _ _ _ hi]; have := itP_lt h hi k; omega
  · rw [itL_len] at hi hj
    rw [itL_nth _ _ _ hi, itL_nth _ _ _ hj] at e
    exact itP_inj h k hi hj (by omega)
theorem itL_one {p : List Int} (h : IsP p) : itL p 1 = p := ext_nth (itL_len p 1) fun i hi => by
  rw [itL_len] at hi
  rw [itL_nth _ _ _ hi]; exact (h.at i hi).2
theorem itL_succ {p : List Int} (h : IsP p) (k : Nat) : tmL p (itL p k) = itL p (k + 1) := ext_nth (by rw [tmL_len, itL_len, itL_len]) fun i hi => by
  rw [tmL_len, itL_len] at hi
  rw [tmL_nth _ _ _ (by rw [itL_len]; exact hi), itL_nth _ _ _ hi, itL_nth _ _ _ hi, Int.toNat_natCast, itP]
  exact ((h.at _ (itP_lt h hi k)).2).symm
/-- sorted: each goes to itself -/
theorem sorted_id {q : List Int} (h : IsP q) : (∀ i, i + 1 < q.length → nth q i ≤ nth q (i + 1)) ↔ ∀ v, v < q.length → nth q v = v := by
  constructor
  · intro hs
    have st : ∀ i, i + 1 < q.length → nth q i + 1 ≤ nth q (i + 1) := fun i hi => by
      have := hs i hi
      have : nth q i ≠ nth q (i + 1) := fun e => by have := h.inj i (i + 1) (by omega) hi e; omega
      omega
    have lo : ∀ i, i < q.length → (i : Int) ≤ nth q i := fun i => by
      induction i with
      | zero => intro hi; have := h.bd 0 hi; omega
      | succ i ih => intro hi; have := ih (by omega); have := st i hi; omega
    have up : ∀ j i, i + j + 1 = q.length → nth q i ≤ (i : Int) := fun j => by
      induction j with
      | zero => intro i hi; have := h.bd i (by omega); omega
      | succ j ih => intro i hi; have := ih (i + 1) (by omega); have := st i (by omega); omega
    intro v hv
    have := lo v hv
    have := up (q.length - v - 1) v (by omega)
    omega
  · intro hv i hi
    rw [hv i (by omega), hv (i + 1) hi]; omega
theorem itL_sorted {p : List Int} (h : IsP p) {o : Nat} (ho : OrdOk p o) (k : Nat) : (∀ i, i + 1 < p.length → nth (itL p k) i ≤ nth (itL p k) (i + 1)) ↔ o ∣ k := by
  have h1 := sorted_id (itL_isP h k)
  rw [itL_len] at h1
  rw [h1, ho.iff]
  constructor
  · intro hv v hlt
    have := hv v hlt
    rw [itL_nth _ _ _ hlt] at this
    exact (itP_dvd h hlt k).1 (by omega)
  · intro hv v hlt
    rw [itL_nth _ _ _ hlt, (itP_dvd h hlt k).2 (hv v hlt)]
theorem dvd_facN : ∀ n d : Nat, 1 ≤ d → d ≤ n → d ∣ facN n
  | 0, d, h1, h2 => by omega
  | n + 1, d, h1, h2 => by
    rw [facN]
    by_cases e : d = n + 1
    · subst e; exact Nat.dvd_mul_right _ _
    · exact Nat.dvd_trans (dvd_facN n d h1 (by omega)) (Nat.dvd_mul_left _ _)

set_option maxRecDepth 100000 in
set_option maxHeartbeats 8000000 in
theorem permOrders_any (x : List Int) (nx : Nat) (a : Option Addr) (ca : Nat) (k0 : Int) (w : World) (h : Sa w a (ints x)) (hn : x.length = nx) (hc : nx ≤ ca) (hm : nx ≤ maxLen) :
    Calls Try.prog 14 #[.slice a nx ca, .int .i64 k0] w fun e w' => e = .returned (.bool true) ∧ Below w.heap.size w w' := by
  have HN := Lib.hid hn; have HS := Lib.hid h; have HM := Lib.hid hm
  clear hn h hm
  go_enter Try.func14, Try.ntmps14
  go_wp2_with fail
  refine (perms_any _).mono ?_; rintro e w1 ⟨rfl, hb⟩
  have F4 := (Fr.start w).keep hb
  clear hb
  go_wp2_with fail
  refine (permOf_any x nx _ _ 10 _ (F4.old HS.out) HN.out hc HM.out (by omega)).mono ?_; rintro e w3 ⟨ad3, n, cp3, rfl, hn3, hc3, hf⟩
  have F5 := Lib.hid (F4.call hf)
  clear F4 hf
  obtain ⟨lA, pA⟩ := permL_ok x 10
  have n10 : n ≤ 10 := by omega
  have PA := Lib.hid pA; have LA : Hid ((permL x 10).length = n) := Lib.hid hn3
  clear pA lA hn3
  generalize permL x 10 = A at *
  go_wp2_with fail
  refine (order_any A n _ _ _ (F5.out.get 0 rfl) LA.out PA.out n10).mono ?_; rintro e w4 ⟨⟨o, rfl, ho⟩, hb⟩
  have F6 := Lib.hid (F5.out.keep hb)
  clear F5 hb
  have o1 := ho.one; have o2 := ho.le
  have hdv : facN n % o = 0 := Nat.mod_eq_zero_of_dvd ((ho.iff _).2 fun v hv => by
    have := ol_spec PA.out hv
    rw [LA.out] at this
    exact dvd_facN n _ this.1 this.2.1)
  have HSRT : Hid (∀ k, (∀ i, i + 1 < n → nth (itL A k) i ≤ nth (itL A k) (i + 1)) ↔ o ∣ k) := Lib.hid fun k => by have := itL_sorted PA.out ho k; rwa [LA.out] at this
  have hfb := facN_10 n n10
  obtain ⟨f, hf⟩ : ∃ f, facN n = f := ⟨_, rfl⟩
  have HFN := Lib.hid (rankCount n)
  rw [hf] at hdv hfb HFN
  clear ho hf
  have e1 : (f : Int) % (o : Int) = 0 := by rw [← Int.natCast_emod, hdv]; rfl
  have d1 : decide ((o : Int) < 1) = false := decide_eq_false (by omega)
  have d2 : ((o : Int) == 0) = false := by rw [beq_eq_false_iff_ne]; omega
  go_wp2_with fail
  refine (HFN.out _ n10).mono ?_; rintro e w' ⟨rfl, rfl⟩
  go_wp2_with fail
  refine (good2b _ _ _ rfl).mono ?_; rintro e w' ⟨rfl, rfl⟩
  have F7 := Lib.hid (F6.out.alloc (.cells #[.int .i64 0, .int .i64 0] 23))
  clear F6 HFN
  go_wp2_with fail
  clear e1 hdv d1
  refine (within_any _ _ _ (by omega) (by omega)).mono ?_; rintro e w' ⟨rfl, rfl⟩
  obtain ⟨K, hK⟩ : ∃ K : Nat, 1 + k0 % 40 = (K : Int) := ⟨(1 + k0 % 40).toNat, by omega⟩
  have k1 : 1 ≤ K := by omega
  have k2 : K ≤ 40 := by omega
  go_wp2_with fail
  clear hK
  refine (slClone A n _ _ _ (F7.out.get 0 rfl) LA.out (by omega)).mono ?_; rintro e w5 ⟨ad, cp, rfl, hcp, hf⟩
  have F8 := Lib.hid (F7.out.call hf)
  have H1 := Lib.hid (itL_one PA.out)
  clear hf F7
  go_wp2_with fail
  go_loopw [10, 50] (fun b i wr => ∃ (j : Nat) (ad : Option Addr) (cp : Nat), j + 1 ≤ K ∧ i = .int .i64 j ∧ b = .slice ad n cp ∧ Fr w wr [⟨3, .slice ad n cp, ints (itL A (j + 1))⟩, ⟨3, .slice ad3 n cp3, ints A⟩]) (fun _ i _ => K - (intOf i).toNat)
  case atStart => exact ⟨0, ad, cp, k1, rfl, rfl, by rw [H1.out]; exact F8.out⟩
  case round =>
    obtain ⟨j, adb, cpb, hj, rfl, rfl, hfr⟩ := hrel
    have LB : Hid ((itL A (j + 1)).length = n) := Lib.hid (by rw [itL_len, LA.out])
    by_cases hlt : j + 1 < K
    · have g : decide ((j : Int) < (K : Int) - 1) = true := decide_eq_true (by omega)
      have PB := Lib.hid (itL_isP PA.out (j + 1))
      have HT := Lib.hid (itL_succ PA.out (j + 1))
      have HF := Lib.hid hfr
      clear hfr
      go_wp2_with fail
      refine (permTimes A (itL A (j + 1)) n _ _ _ _ _ (HF.out.get 1 rfl) LA.out PA.out (HF.out.get 0 rfl) LB.out PB.out n10).mono ?_; rintro e w6 ⟨ad6, cp6, rfl, hc6, hf⟩
      rw [HT.out] at hf
      have F9 := Lib.hid ((HF.out.call hf).sub (M := [⟨3, .slice ad6 n cp6, ints (itL A (j + 1 + 1))⟩, ⟨3, .slice ad3 n cp3, ints A⟩]) (.cons_cons _ (List.sublist_cons_self _ _)))
      clear hf HF
      go_wp2_with fail
      exact ⟨⟨j + 1, ad6, cp6, by omega, by simp, rfl, F9.out⟩, by simp only [intOf]; omega⟩
    · obtain rfl : K = j + 1 := by omega
      have g : decide ((j : Int) < ((j + 1 : Nat) : Int) - 1) = false := decide_eq_false (by omega)
      obtain ⟨z, hz⟩ : ∃ z, (j + 1) % o = z := ⟨_, rfl⟩
      have e5 : ((j : Int) + 1) % (o : Int) = (z : Int) := by rw [← hz]; rfl
      have HZ : Hid (o ∣ j + 1 ↔ z = 0) := Lib.hid (by rw [← hz]; exact ⟨Nat.mod_eq_zero_of_dvd, Nat.dvd_of_mod_eq_zero⟩)
      have HF := Lib.hid hfr
      clear hfr hz
      have n6 : n ≤ 1000000 := by omega
      go_wp2_with fail
      go_region_with (first | (go_at_call 29; refine (slSortedB (itL A (j + 1)) n adb cpb _ (HF.out.drew.get 0 rfl) LB.out n6).mono ?_; rintro e w6 ⟨r, rfl, hr, hf⟩; have F9 := Lib.hid (HF.out.drew.keep hf.bel); have HR := Lib.hid hr; clear hf hr))
      all_goals
        have hrz : r = true ↔ z = 0 := (HR.out.trans (HSRT.out (j + 1))).trans HZ.out
        by_cases hz0 : z = 0
        · obtain rfl : r = true := hrz.2 hz0
          subst hz0
          clear hrz
          go_wp2_with fail
          go_ret
          exact ⟨rfl, F9.out.bel⟩
        · obtain rfl : r = false := by
            cases r with
            | false => rfl
            | true => exact absurd (hrz.1 rfl) hz0
          have q : ((z : Int) == 0) = false := by rw [beq_eq_false_iff_ne]; omega
          clear hrz
          go_wp2_with fail
          go_ret
          exact ⟨by simp [Act.put, e5, q, hz0], F9.out.bel⟩
end Go.Proofs.Ytnjnndodfdghbaa
