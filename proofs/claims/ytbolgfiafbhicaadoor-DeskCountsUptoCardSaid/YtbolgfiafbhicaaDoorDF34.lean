/- Several of my texts in one: Rank. -/
import Derived.Test.YtbolgfiafbhicaaDoorDF12
/- Contracts of package rank: factorial, Count, Code, Of; rises.Crossed. -/
namespace Go.Proofs.YtbolgfiafbhicaaDoor
open Go.RowKit

set_option maxHeartbeats 1000000 in
theorem rankFac (n : Nat) (w : World) (h : n ≤ 10) :
    Calls Tryd.prog 63 #[.int .i64 n] w fun e w' => e = .returned (.int .i64 (facN n : Nat)) ∧ w = w' := by
  go_enter Tryd.func63, Tryd.ntmps63
  go_wp2_with fail
  go_loop [3, 4] (fun o i => ∃ k : Nat, 1 ≤ k ∧ (k ≤ n ∨ k = 1) ∧ i = .int .i64 ((k : Int) + 1) ∧ o = .int .i64 (facN k : Nat)) (fun _ i => n + 1 - (intOf i).toNat)
  case atStart => exact ⟨1, by omega, by omega, rfl, rfl⟩
  case round =>
    obtain ⟨k, hk1, hk, rfl, rfl⟩ := hrel
    by_cases hlt : k + 1 ≤ n
    · have b1 := facN_10 k (by omega)
      have b2 := facN_10 (k + 1) (by omega)
      have b3 := facN_pos k
      have hst : (facN k : Int) * ((k : Int) + 1) = (facN (k + 1) : Nat) := by rw [facN, Int.natCast_mul, Int.mul_comm]; rfl
      obtain ⟨f1, hf1⟩ : ∃ f, facN k = f := ⟨_, rfl⟩
      obtain ⟨f2, hf2⟩ : ∃ f, facN (k + 1) = f := ⟨_, rfl⟩
      rw [hf1] at b1 b3 hst ⊢
      rw [hf2] at b2 hst
      have HF2 := Lib.hid hf2
      clear hf1 hf2
      have d1 : (k : Int) + 1 ≤ (n : Int) := by omega
      go_wp2_with fail
      exact ⟨⟨k + 1, by omega, by omega, by simp, by rw [HF2.out]⟩, by simp only [intOf]; omega⟩
    · have hfe : (facN k : Int) = (facN n : Nat) := by
        rcases hk with h1 | h1
        · obtain rfl : k = n := by omega
          rfl
        · subst h1
          have : n ≤ 1 := by omega
          match n, this with
          | 0, _ => rfl
          | 1, _ => rfl
      have HFE := Lib.hid hfe
      clear hfe
      have d1 : (n : Int) < (k : Int) + 1 := by omega
      go_wp2_with fail
      go_ret
      exact ⟨by rw [HFE.out]; rfl, rfl⟩

theorem rankCount (n : Nat) (w : World) (h : n ≤ 10) :
    Calls Tryd.prog 62 #[.int .i64 n] w fun e w' => e = .returned (.tuple #[.int .i64 (facN n : Nat), .int .i64 0]) ∧ w = w' := by
  have d1 : decide ((n : Int) < 0) = false := decide_eq_false (by omega)
  have d2 : decide ((10 : Int) < (n : Int)) = false := decide_eq_false (by omega)
  go_enter Tryd.func62, Tryd.ntmps62
  go_wp2_with fail
  refine (rankFac n _ h).mono ?_; rintro e w' ⟨rfl, rfl⟩
  go_wp2_with fail
  go_ret2
  exact ⟨rfl, rfl⟩

theorem code_part (p : List Int) (k : Nat) (hk : k < p.length) :
    ((codeL p).take k ++ List.replicate (p.length - k) 0).set k ((lessC (nth p k) (p.drop (k + 1)) : Nat) : Int) = (codeL p).take (k + 1) ++ List.replicate (p.length - (k + 1)) 0 := by
  have hl : ((codeL p).take k).length = k := by rw [List.length_take, codeL_len]; omega
  have e1 : p.length - k = (p.length - (k + 1)) + 1 := by omega
  rw [List.set_append_right _ _ (by omega), hl, Nat.sub_self, e1, List.replicate_succ, List.set_cons_zero, take_nth (codeL p) k (by rw [codeL_len]; exact hk), codeL_nth p k hk, List.append_assoc]
  rfl

set_option maxRecDepth 100000 in
set_option maxHeartbeats 4000000 in
theorem rankCode (p : List Int) (n : Nat) (a : Option Addr) (cap : Nat) (w : World) (h : Sa w a (ints p)) (hn : p.length = n) (hp : IsP p) (h10 : n ≤ 10) (hc : n ≤ cap) :
    Calls Tryd.prog 61 #[.slice a n cap] w (OneSl (codeL p) n 0 w) := by
  have HN := Lib.hid hn; have HS := Lib.hid h; have HP := Lib.hid hp
  clear hn h hp
  have hmk := make_ints n (by omega)
  go_enter Tryd.func61, Tryd.ntmps61
  go_wp2_with fail
  refine (permChk p n _ _ _ HS.out HN.out HP.out h10).mono ?_; rintro e w1 ⟨rfl, hf⟩
  have F1 := hf.makeInts n (by omega)
  go_wp2_with fail
  clear hmk hf
  go_loopw [20] (fun i wr => ∃ k : Nat, k ≤ n ∧ i = .int .i64 k ∧ Fr w wr [⟨3, .slice (some ⟨w1.heap.size, 0, none⟩) n n, ints ((codeL p).take k ++ List.replicate (n - k) 0)⟩]) (fun i _ => n - (intOf i).toNat)
  case atStart => exact ⟨0, by omega, rfl, by rw [List.take_zero, List.nil_append, Nat.sub_zero]; exact F1⟩
  case round =>
    obtain ⟨k, hk, rfl, hfr⟩ := hrel
    clear F1
    by_cases hlt : k < n
    · obtain ⟨b, off, rfl, hb, hcell⟩ := (hfr.old HS.out).int k (by rw [HN.out]; exact hlt)
      have hcp := code_part p k (by rw [HN.out]; exact hlt)
      rw [HN.out] at hcp
      obtain ⟨ad', cp', hsl, hsa, hcp'⟩ := slice_fromT 76 3 Tryd.underlying76 intElem intSize (some ⟨b, off, none⟩) n cap (k + 1) hlt hc (ints p) (by rw [ints_len, HN.out])
      have hsl' : ∀ W, Sem.run Tryd.prog (Instr.slice 76 (.slice (some ⟨b, off, none⟩) n cap) (some (.int .i64 ((k : Int) + 1))) none none) W = .ok (.slice ad' (n - (k + 1)) cp') W := hsl
      have hlen : (p.drop (k + 1)).length = n - (k + 1) := by rw [List.length_drop, HN.out]
      obtain ⟨r, hr⟩ : ∃ r, p.drop (k + 1) = r := ⟨_, rfl⟩
      rw [ints_drop, hr] at hsa
      rw [hr] at hcp hlen
      obtain ⟨x, hx⟩ : ∃ x, nth p k = x := ⟨_, rfl⟩
      rw [hx] at hcell hcp
      obtain ⟨B, hB⟩ : ∃ B, (codeL p).take k ++ List.replicate (n - k) 0 = B := ⟨_, rfl⟩
      have hBl : B.length = n := by rw [← hB]; simp [codeL_len, HN.out]; omega
      have hBk : nth B k = 0 := by
        rw [← hB]
        have hl : ((codeL p).take k).length = k := by rw [List.length_take, codeL_len, HN.out]; omega
        unfold nth
        rw [List.getD_eq_getElem?_getD, List.getElem?_append_right (by omega), hl, Nat.sub_self]
        have e1 : n - k = (n - k - 1) + 1 := by omega
        rw [e1, List.replicate_succ]; rfl
      have hB0 : B.set k ((lessC x (r.take 0) : Nat) : Int) = B := by
        refine ext_nth (by simp) (fun i hi => ?_)
        rw [nth_set _ _ _ _ (by omega)]
        by_cases e : i = k
        · subst e; rw [if_pos rfl, hBk]; rfl
        · rw [if_neg e]
      rw [hB] at hfr hcp
      have HCP := Lib.hid hcp; have HLEN := Lib.hid hlen; have HBL := Lib.hid hBl; have HB0 := Lib.hid hB0; have HSA := Lib.hid hsa
      have HF := Lib.hid hfr
      have d1 : (0 : Int) ≤ (k : Int) := by omega
      have d2 : (k : Int) < (n : Int) := by omega
      obtain ⟨m, hm⟩ : ∃ m, n - (k + 1) = m := ⟨_, rfl⟩
      rw [hm] at hsl' hcp'
      have HM := Lib.hid hm
      have m10 : m ≤ 10 := by omega
      clear hcp hlen hBl hBk hB0 hsa hB hx hr hfr hsl hm
      go_wp2_with fail
      clear hsl'
      go_loopw [30] (fun j wr => ∃ j' : Nat, j' ≤ m ∧ j = .int .i64 j' ∧ Fr w wr [⟨3, .slice (some ⟨w1.heap.size, 0, none⟩) n n, ints (B.set k ((lessC x (r.take j') : Nat) : Int))⟩]) (fun j _ => m - (intOf j).toNat)
      case atStart => exact ⟨0, by omega, rfl, by rw [HB0.out]; exact HF.out⟩
      case round =>
        obtain ⟨j, hj, rfl, hfr⟩ := hrel
        clear HF
        by_cases hj' : j < m
        · obtain ⟨b2, off2, rfl, _, hc2⟩ := (HSA.out _ (hfr.old HS.out)).int j (by rw [HLEN.out, HM.out]; exact hj')
          have hsn := take_nth r j (by rw [HLEN.out, HM.out]; exact hj')
          obtain ⟨y, hy⟩ : ∃ y, nth r j = y := ⟨_, rfl⟩
          rw [hy] at hc2 hsn
          have hle := lessC_le x (r.take j)
          rw [List.length_take] at hle
          obtain ⟨c, hcc⟩ : ∃ c, lessC x (r.take j) = c := ⟨_, rfl⟩
          have hst : lessC x (r.take (j + 1)) = c + if y < x then 1 else 0 := by rw [hsn, lessC_snoc, hcc]
          rw [hcc] at hfr hle
          obtain ⟨g, e, _, hg2, hg3⟩ := hfr.openI k (by rw [List.length_set, HBL.out]; exact hlt)
          cases e
          rw [nth_set _ _ _ _ (by rw [HBL.out]; exact hlt), if_pos rfl] at hg2
          have d3 : (0 : Int) ≤ (j : Int) := by omega
          have d4 : (j : Int) < (m : Int) := by omega
          have c10 : c ≤ 10 := by omega
          by_cases hyx : y < x
          · rw [if_pos hyx] at hst
            have F2 := hfr.setInt k ((c : Int) + 1)
            rw [List.set_set, show ((c : Int) + 1) = ((lessC x (r.take (j + 1)) : Nat) : Int) from by rw [hst]; rfl] at F2
            rw [show ((lessC x (r.take (j + 1)) : Nat) : Int) = (c : Int) + 1 from by rw [hst]; rfl] at F2
            have HF2 := Lib.hid F2
            have HST := Lib.hid hst
            clear hy hsn hcc hfr F2 hst hle
            go_wp2_with fail
            go_roundw
            case rel => exact ⟨j + 1, by omega, by go_num, by rw [HST.out]; exact HF2.out⟩
            case measure => simp only [intOf]; omega
          · rw [if_neg hyx, Nat.add_zero] at hst
            have HF2 := Lib.hid hfr
            have HST := Lib.hid hst
            clear hy hsn hcc hfr hst hle hg2 hg3
            go_wp2_with fail
            go_roundw
            case rel => exact ⟨j + 1, by omega, by go_num, by rw [HST.out]; exact HF2.out⟩
            case measure => simp only [intOf]; omega
        · rw [List.take_of_length_le (by rw [HLEN.out, HM.out]; omega), HCP.out] at hfr
          go_wp2_with fail
          go_roundw
          case rel => exact ⟨k + 1, by omega, by go_num, hfr⟩
          case measure => simp only [intOf]; omega
    · obtain rfl : k = n := by omega
      rw [Nat.sub_self, List.replicate_zero, List.append_nil, List.take_of_length_le (by rw [codeL_len, HN.out]; omega)] at hfr
      go_wp2_with fail
      go_ret2
      exact ⟨_, _, rfl, Nat.le_refl _, hfr⟩

set_option maxRecDepth 100000 in
set_option maxHeartbeats 2000000 in
theorem rankOf (p : List Int) (n : Nat) (a : Option Addr) (cap : Nat) (w : World) (h : Sa w a (ints p)) (hn : p.length = n) (hp : IsP p) (h10 : n ≤ 10) (hc : n ≤ cap) :
    Calls Tryd.prog 32 #[.slice a n cap] w fun e w' => e = .returned (.tuple #[.int .i64 (ofC (codeL p)), .int .i64 0]) ∧ Below w.heap.size w w' := by
  have HN := Lib.hid hn; have HS := Lib.hid h; have HP := Lib.hid hp
  have hbd := ofC_bd (codeL p) (codeL_ok p)
  rw [codeL_len, hn] at hbd
  have hf10 := facN_10 n h10
  have HBD : Hid (0 ≤ ofC (codeL p) ∧ ofC (codeL p) ≤ 3628800) := Lib.hid ⟨hbd.1, by omega⟩
  clear hn h hp hbd hf10
  go_enter Tryd.func32, Tryd.ntmps32
  go_wp2_with fail
  refine (rankCode p n _ _ _ HS.out HN.out HP.out h10 hc).mono ?_; rintro e w1 ⟨ad, cp, rfl, hcp, hf⟩
  have HC : Hid ((codeL p).length = n) := Lib.hid (by rw [codeL_len, HN.out])
  have HCB := Lib.hid (codeL_bd p)
  have HCD : Hid (∀ k, 0 ≤ ofC ((codeL p).drop k)) := Lib.hid fun k => by
    have key : ∀ (c : List Int) k, CodeOk c → CodeOk (c.drop k) := by
      intro c k
      induction k generalizing c with
      | zero => intro h; exact h
      | succ k ih =>
        intro h
        cases c with
        | nil => exact h
        | cons x r => exact ih r h.2
    exact (ofC_bd _ (key _ k (codeL_ok p))).1
  go_wp2_with fail
  go_loop [6, 19] (fun o i => ∃ (k : Nat) (z : Int), k ≤ n ∧ i = .int .i64 k ∧ o = .int .i64 z ∧ 0 ≤ z ∧ z ≤ 3628800 ∧ Hid (z * (facN (n - k) : Int) + ofC ((codeL p).drop k) = ofC (codeL p))) (fun _ i => n - (intOf i).toNat)
  case atStart => exact ⟨0, 0, by omega, rfl, rfl, by omega, by omega, Lib.hid (by rw [List.drop_zero]; omega)⟩
  case round =>
    obtain ⟨k, z, hk, rfl, rfl, z0, z1, HZ⟩ := hrel
    by_cases hlt : k < n
    · obtain ⟨b, off, rfl, hb, hcell⟩ := (hf.get 0 rfl).int k (by rw [HC.out]; exact hlt)
      have hcb := HCB.out k (by rw [HN.out]; exact hlt)
      rw [HN.out] at hcb
      have hdr : (codeL p).drop k = nth (codeL p) k :: (codeL p).drop (k + 1) := by
        rw [List.drop_eq_getElem_cons (by rw [HC.out]; exact hlt)]; simp [nth, HC.out, hlt]
      obtain ⟨x, hx⟩ : ∃ x, nth (codeL p) k = x := ⟨_, rfl⟩
      rw [hx] at hcell hcb hdr
      obtain ⟨c1, c2⟩ := hcb
      have hz := HZ.out
      have e1 : n - k = (n - (k + 1)) + 1 := by omega
      rw [hdr, ofC, List.length_drop, HC.out, e1, facN, ← e1] at hz
      have m1 : 0 ≤ z * ((n : Int) - (k : Int)) := Int.mul_nonneg z0 (by omega)
      have m2 : z * ((n : Int) - (k : Int)) ≤ 3628800 * 10 := Int.le_trans (Int.mul_le_mul_of_nonneg_right z1 (by omega)) (Int.mul_le_mul_of_nonneg_left (by omega) (by omega))
      obtain ⟨q, P⟩ : ∃ q, z * ((n : Int) - (k : Int)) = q := ⟨_, rfl⟩
      have hz2 : (q + x) * (facN (n - (k + 1)) : Int) + ofC ((codeL p).drop (k + 1)) = ofC (codeL p) := by
        rw [← hz, ← P, Int.add_mul, Int.natCast_mul, ← Int.mul_assoc, show ((n - k : Nat) : Int) = (n : Int) - (k : Int) from by omega]; omega
      rw [P] at m1 m2
      have hq : q + x ≤ 3628800 := by
        have f1 := facN_pos (n - (k + 1))
        have d := HCD.out (k + 1)
        have b := HBD.out.2
        have : (q + x) * 1 ≤ (q + x) * (facN (n - (k + 1)) : Int) := Int.mul_le_mul_of_nonneg_left (by omega) (by omega)
        omega
      have HZ2 := Lib.hid hz2
      clear hx hdr hz e1 hz2 HZ
      have d1 : (0 : Int) ≤ (k : Int) := by omega
      have d2 : (k : Int) < (n : Int) := by omega
      go_wp2_with fail
      exact ⟨⟨k + 1, q + x, by omega, by simp, rfl, by omega, hq, HZ2⟩, by simp only [intOf]; omega⟩
    · obtain rfl : k = n := by omega
      have hz := HZ.out
      rw [Nat.sub_self, List.drop_of_length_le (by rw [HC.out]; omega)] at hz
      have HE : Hid (z = ofC (codeL p)) := Lib.hid (by rw [← hz]; simp [facN, ofC])
      clear hz
      go_wp2_with fail
      go_ret2
      exact ⟨by rw [HE.out]; rfl, hf.bel⟩

def moreC (x : Int) (l : List Int) : Nat := l.countP (fun y => decide (x < y))
theorem moreC_snoc (x y : Int) (l : List Int) : moreC x (l ++ [y]) = moreC x l + if x < y then 1 else 0 := by
  unfold moreC
  rw [List.countP_append, List.countP_singleton]; by_cases h : x < y <;> simp [h]
theorem moreC_le (x : Int) (l : List Int) : moreC x l ≤ l.length := List.countP_le_length
def crossK (p : List Int) : Nat → Nat
  | 0 => 0
  | k + 1 => crossK p k + moreC (nth p k) (p.take k)
theorem crossK_le (p : List Int) : ∀ k, crossK p k ≤ k * k
  | 0 => by simp [crossK]
  | k + 1 => by
    rw [crossK]
    have h1 := crossK_le p k
    have h2 := moreC_le (nth p k) (p.take k)
    rw [List.length_take] at h2
    have : (k + 1) * (k + 1) = k * k + 2 * k + 1 := by rw [Nat.add_mul, Nat.mul_add]; omega
    omega
theorem crossK_A (p : List Int) : ∀ k, k ≤ p.length → crossA (p.take k) (p.drop k) + (crossK p k : Nat) = crossA [] p
  | 0, _ => by simp [crossK]
  | k + 1, hk => by
    have ih := crossK_A p k (by omega)
    have dr : p.drop k = nth p k :: p.drop (k + 1) := by rw [List.drop_eq_getElem_cons (by omega)]; simp [nth, show k < p.length from by omega]
    rw [dr, crossA] at ih
    rw [crossK, take_nth p k (by omega), ← ih]
    have : (p.take k).countP (fun y => decide (nth p k < y)) = moreC (nth p k) (p.take k) := rfl
    rw [this, Int.natCast_add]; omega
theorem crossK_code (p : List Int) : ((crossK p p.length : Nat) : Int) = isumR (codeL p) := by
  rw [← cross_code, ← crossK_A p p.length (Nat.le_refl _), List.take_length, List.drop_of_length_le (Nat.le_refl _), crossA]; omega

end Go.Proofs.YtbolgfiafbhicaaDoor
