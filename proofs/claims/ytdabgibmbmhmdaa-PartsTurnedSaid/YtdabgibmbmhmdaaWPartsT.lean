/- The walk of the law PartsTurned. -/
import Derived.Test.YtdabgibmbmhmdaaSumOf
import Derived.Test.YtdabgibmbmhmdaaPartL
import Derived.Test.YtdabgibmbmhmdaaGood
namespace Go.Proofs.Ytdabgibmbmhmdaa
open Go.RowKit

theorem part_pos {l : List Int} (h : PartOk l) : ∀ x ∈ l, 1 ≤ x ∧ x ≤ 40 := fun x hx => by
  obtain ⟨k, hk, rfl⟩ := List.getElem_of_mem hx
  have := h k hk
  have e2 : nth l k = l[k] := by simp [nth, hk]
  rw [e2] at this; omega
/-- sums of a beginning stay small -/
theorem sumI_pre {l : List Int} (h : ∀ x ∈ l, 0 ≤ x) (k : Nat) : 0 ≤ sumI (l.take k) ∧ sumI (l.take k) ≤ sumI l := by
  have e : sumI l = sumI (l.take k) + sumI (l.drop k) := by rw [← sumI_app, List.take_append_drop]
  have a := sumI_nn (l.take k) (fun x hx => h x (List.mem_of_mem_take hx))
  have b := sumI_nn (l.drop k) (fun x hx => h x (List.mem_of_mem_drop hx))
  omega
theorem Sa.int00 {w : World} {a : Option Addr} {l : List Int} {x : Int} (h : Sa w a (ints l)) (hi : 0 < l.length) (hx : nth l 0 = x) : ∃ b off, a = some ⟨b, off, none⟩ ∧ b < w.heap.size ∧ w.cell? ⟨b, off, none⟩ = some (.int .i64 x) := by
  subst hx; exact h.int 0 hi

set_option maxRecDepth 100000 in
set_option maxHeartbeats 8000000 in
theorem partsTurned_any (l0 : List Int) (n : Nat) (a : Option Addr) (cap : Nat) (w : World) (h : Sa w a (ints l0)) (hn : l0.length = n) (hc : n ≤ cap) (hm : n ≤ maxLen) :
    Calls Try.prog 9 #[.slice a n cap] w fun e w' => e = .returned (.bool true) ∧ Below w.heap.size w w' := by
  obtain ⟨s1, s2, s3⟩ := sofR_ok l0 (min n 20) (by omega)
  have HN := Lib.hid hn; have HS := Lib.hid h
  clear hn h
  go_enter Try.func9, Try.ntmps9
  go_wp2_with fail
  refine (partsLive_any _).mono ?_; rintro e w1 ⟨rfl, hb⟩
  have F1 := (Fr.start w).keep hb
  clear hb
  go_wp2_with fail
  refine (sumOf_any l0 n _ _ 20 _ (F1.old HS.out) HN.out hc hm (by omega)).mono ?_; rintro e w2 ⟨ad, m, cp, rfl, hlen, hcp, hf⟩
  have F2 := F1.call hf
  clear F1 hf
  generalize sofR l0 (min n 20) = l at *
  have HT := Lib.hid (trn_said s1); have HP := Lib.hid s1; have HB := Lib.hid s2; have HTT := Lib.hid (trn_trn s1 s2); have HTO := Lib.hid (trn_ok s1 s2); have HL := Lib.hid hlen
  have hml : m ≤ 20 := by omega
  have hcG : Hid ((m = 0 ∧ (trn l).length = 0) ∨ (0 < m ∧ ((trn l).length : Int) = nth l 0 ∧ 0 < (trn l).length ∧ nth (trn l) 0 = (m : Int))) := by
    apply Lib.hid
    obtain ⟨h1, h2, h3⟩ := trn_said s1
    rcases Nat.eq_zero_or_pos m with h0 | h0
    · refine .inl ⟨h0, ?_⟩
      rw [h2, nth_out l 0 (by omega)]; rfl
    · have hx := (s1 0 (by omega)).1
      refine .inr ⟨h0, by omega, by omega, ?_⟩
      rw [h1]
      have hc : cG l 0 = l.length := by
        unfold cG
        rw [List.countP_eq_length]
        intro x hx
        have := (part_pos s1 x hx).1
        simp; omega
      omega
  clear s1 s2 s3 hlen
  go_wp2_with fail
  refine (partTurned l m _ _ _ (F2.get 0 rfl) HL.out HP.out).mono ?_; rintro e w3 ⟨ad1, cp1, rfl, hcp1, hf⟩
  have F3 := F2.call hf
  clear F2 hf
  have ht40 : (trn l).length ≤ 40 := HTO.out.len
  obtain ⟨t, ht⟩ : ∃ t, trn l = t := ⟨_, rfl⟩
  rw [ht] at F3 ht40 hcG HT HTT HTO hcp1 ⊢
  obtain ⟨tn, htn⟩ : ∃ tn, t.length = tn := ⟨_, rfl⟩
  rw [htn] at F3 ht40 hcG hcp1 ⊢
  have HTN := Lib.hid htn
  clear htn ht
  go_wp2_with fail
  refine (partTurned t tn _ _ _ (F3.get 0 rfl) HTN.out HTO.out).mono ?_; rintro e w4 ⟨ad2, cp2, rfl, hcp2, hf⟩
  rw [HTT.out] at hf hcp2 ⊢
  rw [HL.out] at hf hcp2 ⊢
  have F4 := F3.call hf
  clear F3 hf
  have L1 := Lib.hid (F4.get 2 rfl); have L2 := Lib.hid (F4.get 1 rfl)
  go_wp2_with fail
  go_loop [8, 30] (fun s i => ∃ k : Nat, k ≤ m ∧ i = .int .i64 k ∧ s = .int .i64 (sumI (l.take k))) (fun _ i => m - (intOf i).toNat)
  case atStart => exact ⟨0, by omega, rfl, rfl⟩
  case round =>
    obtain ⟨k, hk, rfl, rfl⟩ := hrel
    by_cases hlt : k < m
    · have HF4 := Lib.hid F4; clear F4
      obtain ⟨b, off, rfl, hb, hc⟩ := L1.out.int k (by rw [HL.out]; exact hlt)
      have hs := Lib.hid (show sumI (l.take (k + 1)) = sumI (l.take k) + nth l k from by rw [take_nth l k (by rw [HL.out]; exact hlt), sumI_snoc])
      have p := part_pos HP.out _ (nth_mem l k (by rw [HL.out]; exact hlt))
      have q := sumI_pre (fun x hx => by have := part_pos HP.out x hx; omega) k
      have := HB.out
      have q2 : sumI (l.take k) ≤ 40 := by omega
      replace q := q.1
      obtain ⟨x, hx⟩ : ∃ x, nth l k = x := ⟨_, rfl⟩
      obtain ⟨S, hS⟩ : ∃ S, sumI (l.take k) = S := ⟨_, rfl⟩
      rw [hx] at hc p
      rw [hS] at q q2 ⊢
      have HX := Lib.hid hx; have HSS := Lib.hid hS
      clear hx hS this
      go_wp2_with fail
      exact ⟨⟨k + 1, by omega, by simp, by rw [hs.out, HSS.out, HX.out]⟩, by simp only [intOf]; omega⟩
    · obtain rfl : k = m := by omega
      rw [List.take_of_length_le (by rw [HL.out]; omega)]
      obtain ⟨A, hA⟩ : ∃ A, sumI l = A := ⟨_, rfl⟩
      rw [hA]
      have HA := Lib.hid hA
      have a1 : A ≤ 40 := by rw [← hA]; exact HB.out
      clear hA hlt
      go_wp2_with fail
      go_loop [9, 40] (fun s i => ∃ j : Nat, j ≤ tn ∧ i = .int .i64 j ∧ s = .int .i64 (sumI (t.take j))) (fun _ i => tn - (intOf i).toNat)
      case atStart => exact ⟨0, by omega, rfl, rfl⟩
      case round =>
        obtain ⟨j, hj, rfl, rfl⟩ := hrel
        by_cases hlt : j < tn
        · have HF4 := Lib.hid F4; clear F4
          obtain ⟨b, off, rfl, hb, hc⟩ := L2.out.int j (by rw [HTN.out]; exact hlt)
          have hs := Lib.hid (show sumI (t.take (j + 1)) = sumI (t.take j) + nth t j from by rw [take_nth t j (by rw [HTN.out]; exact hlt), sumI_snoc])
          have p := part_pos HTO.out _ (nth_mem t j (by rw [HTN.out]; exact hlt))
          have q := sumI_pre (fun x hx => by have := part_pos HTO.out x hx; omega) j
          have := HT.out.2.2
          have := HA.out
          have q2 : sumI (t.take j) ≤ 40 := by omega
          replace q := q.1
          obtain ⟨x, hx⟩ : ∃ x, nth t j = x := ⟨_, rfl⟩
          obtain ⟨S, hS⟩ : ∃ S, sumI (t.take j) = S := ⟨_, rfl⟩
          rw [hx] at hc p
          rw [hS] at q q2 ⊢
          have HX := Lib.hid hx; have HSS := Lib.hid hS
          clear hx hS
          go_wp2_with fail
          exact ⟨⟨j + 1, by omega, by simp, by rw [hs.out, HSS.out, HX.out]⟩, by simp only [intOf]; omega⟩
        · obtain rfl : j = tn := by omega
          rw [List.take_of_length_le (by rw [HTN.out]; omega), HT.out.2.2, HA.out]
          clear hlt
          rcases hcG.out with ⟨z1, z2⟩ | ⟨z1, z2, z3, z4⟩
          · subst z1; subst z2
            go_wp2_with fail
            refine (good2b _ w4.heap.size _ rfl).mono ?_; rintro e w' ⟨rfl, rfl⟩
            replace F4 := F4.alloc (.cells #[.int .i64 0, .int .i64 0] 23)
            go_wp2_with fail
            refine (slEqual l l 0 0 _ _ _ _ _ (F4.get 2 rfl) (F4.get 0 rfl) HL.out HL.out (by omega) (by omega)).mono ?_; rintro e w5 ⟨rfl, hf⟩
            rw [decide_eq_true rfl]
            replace F4 := F4.keep hf.bel
            go_wp2_with fail
            go_ret
            exact ⟨rfl, F4.bel⟩
          · go_wp2_with fail
            refine (good2b _ w4.heap.size _ rfl).mono ?_; rintro e w' ⟨rfl, rfl⟩
            replace F4 := F4.alloc (.cells #[.int .i64 0, .int .i64 0] 23)
            go_wp2_with fail
            refine (slEqual l l _ _ _ _ _ _ _ (F4.get 2 rfl) (F4.get 0 rfl) HL.out HL.out (by omega) (by omega)).mono ?_; rintro e w5 ⟨rfl, hf⟩
            rw [decide_eq_true rfl]
            replace F4 := F4.keep hf.bel
            clear hf
            obtain ⟨b1, off1, e1, hb1, hc1⟩ := (F4.get 2 rfl).int00 (by rw [HL.out]; exact z1) z2.symm
            obtain ⟨b2, off2, e2, hb2, hc2⟩ := (F4.get 1 rfl).int00 (by rw [HTN.out]; exact z3) z4
            subst e1; subst e2
            have HF4 := Lib.hid F4; clear F4
            go_wp2_with fail
            go_ret
            exact ⟨rfl, HF4.out.bel⟩
end Go.Proofs.Ytdabgibmbmhmdaa
