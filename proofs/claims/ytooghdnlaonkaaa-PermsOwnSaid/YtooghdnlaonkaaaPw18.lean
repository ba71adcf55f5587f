/- Several of my texts in one: Shuf. -/
import Derived.Test.YtooghdnlaonkaaaPw13
import Derived.Test.YtooghdnlaonkaaaPw15
/- Contracts of package shuffle: Check, Deal, Lots; lotsOf, deals. -/
namespace Go.Proofs.Ytooghdnlaonkaaa
open Go.RowKit

set_option maxHeartbeats 1000000 in
theorem shChk (l : List Int) (n : Nat) (a : Option Addr) (cap : Nat) (w : World) (h : Sa w a (ints l)) (hn : l.length = n) (hp : LotOk l) (h10 : n ≤ 10) :
    Calls Try.prog 101 #[.slice a n cap] w fun e w' => e = .returned (.int .i64 0) ∧ w = w' := by
  have HN := Lib.hid hn; have HS := Lib.hid h; have HP := Lib.hid hp
  clear hn h hp
  go_enter Try.func101, Try.ntmps101
  go_wp2_with fail
  go_loop [10] (fun i => ∃ k : Nat, k ≤ n ∧ i = .int .i64 k) (fun i => n - (intOf i).toNat)
  case atStart => exact ⟨0, by omega, rfl⟩
  case round =>
    obtain ⟨k, hk, rfl⟩ := hrel
    by_cases hlt : k < n
    · obtain ⟨b, off, rfl, hb, hc⟩ := HS.out.int k (by rw [HN.out]; exact hlt)
      obtain ⟨p1, p2⟩ := HP.out k (by rw [HN.out]; exact hlt)
      obtain ⟨x, hx⟩ : ∃ x, nth l k = x := ⟨_, rfl⟩
      rw [hx] at hc p1 p2
      have d1 : decide (x < 0) = false := decide_eq_false (by omega)
      have d2 : decide ((k : Int) < x) = false := decide_eq_false (by omega)
      clear hx
      go_wp2_with fail
      exact ⟨⟨k + 1, by omega, by simp⟩, by simp only [intOf]; omega⟩
    · go_wp2_with fail
      go_ret
      exact ⟨rfl, rfl⟩

set_option maxRecDepth 100000 in
set_option maxHeartbeats 2000000 in
theorem shDeal (l : List Int) (n : Nat) (a : Option Addr) (cap : Nat) (w : World) (h : Sa w a (ints l)) (hn : l.length = n) (hp : LotOk l) (h10 : n ≤ 10) :
    Calls Try.prog 55 #[.slice a n cap] w (OneSl (dealL l) n 0 w) := by
  have HN := Lib.hid hn; have HS := Lib.hid h; have HP := Lib.hid hp
  clear hn h hp
  have hmk := make_ints n (by omega)
  go_enter Try.func55, Try.ntmps55
  go_wp2_with fail
  refine (shChk l n _ _ _ HS.out HN.out HP.out h10).mono ?_; rintro e w' ⟨rfl, rfl⟩
  have F1 := (Fr.start w).makeInts n (by omega)
  go_wp2_with fail
  clear hmk
  go_loopw [18] (fun i wr => ∃ k : Nat, k ≤ n ∧ i = .int .i64 k ∧ Fr w wr [⟨3, .slice (some ⟨w.heap.size, 0, none⟩) n n, ints (dealK l k ++ List.replicate (n - k) 0)⟩]) (fun i _ => n - (intOf i).toNat)
  case atStart => exact ⟨0, by omega, rfl, by rw [dealK, List.nil_append, Nat.sub_zero]; exact F1⟩
  case round =>
    obtain ⟨k, hk, rfl, hfr⟩ := hrel
    clear F1
    by_cases hlt : k < n
    · obtain ⟨b, off, rfl, hb, hc⟩ := (hfr.old HS.out).int k (by rw [HN.out]; exact hlt)
      have hbd := HP.out k (by rw [HN.out]; exact hlt)
      obtain ⟨dl, _⟩ := dealK_ok l HP.out k (by rw [HN.out]; omega)
      obtain ⟨x, hx⟩ : ∃ x : Nat, nth l k = x := ⟨(nth l k).toNat, by omega⟩
      have hst := deal_step (dealK l k) (n - (k + 1)) x (by rw [dl]; omega)
      have hdk : dealK l (k + 1) = sw (dealK l k) (dealK l k).length x := by rw [dealK, hx, dl]; rfl
      rw [← hdk, dl, show n - (k + 1) + 1 = n - k from by omega] at hst
      rw [hx] at hc hbd
      have hlen : (dealK l k ++ List.replicate (n - k) 0).length = n := by rw [List.length_append, dl, List.length_replicate]; omega
      obtain ⟨O, hO⟩ : ∃ O, dealK l k ++ List.replicate (n - k) 0 = O := ⟨_, rfl⟩
      rw [hO] at hst hlen hfr
      have hxn : x < n := by omega
      obtain ⟨y, hy⟩ : ∃ y, nth O x = y := ⟨_, rfl⟩
      obtain ⟨g1, e1, _, c1, z1⟩ := hfr.openI x (by rw [hlen]; exact hxn)
      obtain ⟨g2, e2, _, c2, z2⟩ := hfr.openI k (by rw [hlen]; exact hlt)
      cases e1; cases e2
      have F2 := hfr.setInt k y
      obtain ⟨g3, e3, _, c3, z3⟩ := F2.openI x (by rw [List.length_set, hlen]; exact hxn)
      cases e3
      have F3 := F2.setInt x k
      rw [← hy, hst] at F3
      rw [hy] at F3 c1
      have HF3 := Lib.hid F3
      clear hx dl hst hdk hlen hO hfr hy hbd F2 F3
      have d1 : (0 : Int) ≤ (x : Int) := by omega
      have d2 : (x : Int) < (n : Int) := by omega
      have d3 : (0 : Int) ≤ (k : Int) := by omega
      have d4 : (k : Int) < (n : Int) := by omega
      go_wp2_with fail
      go_roundw
      case rel => exact ⟨k + 1, by omega, by go_num, HF3.out⟩
      case measure => simp only [intOf]; omega
    · obtain rfl : k = n := by omega
      rw [Nat.sub_self, List.replicate_zero, List.append_nil] at hfr
      go_wp2_with fail
      go_ret2
      exact ⟨_, _, rfl, Nat.le_refl _, by rw [dealL, HN.out]; exact hfr⟩

set_option maxRecDepth 100000 in
set_option maxHeartbeats 4000000 in
theorem shLots (p : List Int) (n : Nat) (a : Option Addr) (cap : Nat) (w : World) (h : Sa w a (ints p)) (hn : p.length = n) (hp : IsP p) (h10 : n ≤ 10) :
    Calls Try.prog 54 #[.slice a n cap] w (OneSl (lotsD n p) n 0 w) := by
  have HN := Lib.hid hn; have HS := Lib.hid h; have HP := Lib.hid hp
  have HNI := Lib.hid (show (ints p).length = n from by rw [ints_len, hn])
  clear hn h hp
  have hmk := make_ints n (by omega)
  go_enter Try.func54, Try.ntmps54
  go_wp2_with fail
  refine (permChk p n _ _ _ HS.out HN.out HP.out h10).mono ?_; rintro e w1 ⟨rfl, hf⟩
  have F1 := hf.makeInts n (by omega)
  have HF1 := Lib.hid F1
  have HS1 := Lib.hid (F1.old HS.out)
  clear F1 hf
  go_wp2_with (with_reducible refine at_slot 20 ?_; go_must (refine wpList_copyFr (w0 := w) rfl (.tmp 18) (.tmp 19) 32 32 3 Try.underlying32 intSize rfl _ _ n n n cap _ (ints p) [] rfl rfl HF1.out HS1.out HNI.out (by omega) (ints_one _) ?_); intro w2 hF2 hsz2; rw [List.drop_of_length_le (by rw [ints_len]; simp), List.append_nil] at hF2; have HF2 := Lib.hid hF2; clear hF2 hsz2)
  clear hmk
  have F3 := HF2.out.makeInts n (by omega)
  go_loopw [7] (fun i wr => ∃ (k : Nat) (q s : List Int), k ≤ n ∧ i = .int .i64 ((k : Int) - 1) ∧ Hid (q.length = n ∧ IsP (q.take k) ∧ s.length = n - k ∧ lotsD n p = lotsD k (q.take k) ++ s) ∧ Fr w wr [⟨3, .slice (some ⟨w2.heap.size, 0, none⟩) n n, ints (List.replicate k 0 ++ s)⟩, ⟨3, .slice (some ⟨w1.heap.size, 0, none⟩) n n, ints q⟩]) (fun i _ => (intOf i + 1).toNat)
  case atStart => exact ⟨n, p, [], by omega, rfl, Lib.hid ⟨HN.out, by rw [List.take_of_length_le (by rw [HN.out]; omega)]; exact HP.out, by simp, by rw [List.take_of_length_le (by rw [HN.out]; omega), List.append_nil]⟩, by rw [List.append_nil]; exact F3⟩
  case round =>
    obtain ⟨k, q, s, hk, rfl, HQ, hfr⟩ := hrel
    clear F3 HF1 HF2
    cases k with
    | succ i =>
      obtain ⟨ql, qp, sl, qs⟩ := HQ.out
      have qtl : (q.take (i + 1)).length = i + 1 := by rw [List.length_take, ql]; omega
      obtain ⟨a1, a2, a3, a4, a5⟩ := sw_unsw (q.take (i + 1)) i qtl qp
      obtain ⟨x, hx⟩ : ∃ x, idxL (q.take (i + 1)) i = x := ⟨_, rfl⟩
      have huns : unsw (q.take (i + 1)) i = (q.set x (nth q i)).take i := by
        unfold unsw
        rw [hx, nth_take q (i + 1) i (by omega)]
        refine ext_nth (by simp; omega) (fun j hj => ?_)
        have hj' : j < i := by rw [List.length_take] at hj; omega
        rw [nth_take _ _ _ hj', nth_take _ _ _ hj', nth_set _ _ _ _ (by rw [qtl]; omega), nth_set _ _ _ _ (by rw [ql]; omega), nth_take q _ _ (by omega)]
      have hlots : lotsD n p = lotsD i ((q.set x (nth q i)).take i) ++ ((x : Int) :: s) := by
        rw [qs, lotsD, hx, huns, List.append_assoc]; rfl
      rw [hx] at a1 a2
      rw [nth_take q (i + 1) x (by omega)] at a2
      have honly : ∀ j, j ≤ i → nth q j = i → j = x := fun j hj e => qp.inj j x (by rw [qtl]; omega) (by rw [qtl]; omega) (by rw [nth_take _ _ _ (by omega), nth_take _ _ _ (by omega), a2, e])
      rw [huns] at a4
      have hin : i < n := by omega
      obtain ⟨v, hv⟩ : ∃ v, nth q i = v := ⟨_, rfl⟩
      rw [hv] at hlots a4
      have HLOTS := Lib.hid hlots; have HA4 := Lib.hid a4; have HON := Lib.hid honly; have HQL := Lib.hid ql; have HA2 := Lib.hid a2; have HSL := Lib.hid sl; have HV := Lib.hid hv
      have HF := Lib.hid hfr
      rw [show (((i + 1 : Nat) : Int) - 1) = (i : Int) from by omega]
      clear hx huns hlots a2 a3 a4 a5 honly qp qtl ql sl qs HQ hfr hv hk
      have d1 : (0 : Int) ≤ (i : Int) := by omega
      have d2 : (i : Int) + 1 ≤ (n : Int) := by omega
      have d3 : (i : Int) < (n : Int) := by omega
      go_wp2_with fail
      go_loopw [36] (fun j wr => ∃ j' : Nat, j' ≤ i + 1 ∧ j = .int .i64 j' ∧ Fr w wr [⟨3, .slice (some ⟨w2.heap.size, 0, none⟩) n n, ints (List.replicate i 0 ++ ((if x < j' then (x : Int) else 0) :: s))⟩, ⟨3, .slice (some ⟨w1.heap.size, 0, none⟩) n n, ints q⟩]) (fun j _ => i + 1 - (intOf j).toNat)
      case atStart =>
        refine ⟨0, by omega, rfl, ?_⟩
        have := HF.out
        rw [if_neg (by omega)]
        rw [List.replicate_succ', List.append_assoc] at this
        exact this
      case round =>
        obtain ⟨j, hj, rfl, hfr⟩ := hrel
        clear HF
        have hlenO : ∀ z : Int, (List.replicate i (0 : Int) ++ (z :: s)).length = n := fun z => by simp [HSL.out]; omega
        have hsetO : ∀ y z : Int, (List.replicate i (0 : Int) ++ (y :: s)).set i z = List.replicate i 0 ++ (z :: s) := fun y z => by
          rw [List.set_append_right _ _ (by simp)]; simp
        have hnthO : ∀ y : Int, nth (List.replicate i (0 : Int) ++ (y :: s)) i = y := fun y => by
          unfold nth
          rw [List.getD_eq_getElem?_getD, List.getElem?_append_right (by simp)]; simp
        by_cases hlt : j < i + 1
        · obtain ⟨b2, o2, e2, _, cq⟩ := (hfr.get 1 rfl).int j (by rw [HQL.out]; omega)
          cases e2
          rw [Nat.zero_add] at cq
          obtain ⟨g, e, _, c1, z1⟩ := hfr.openI i (by rw [hlenO]; omega)
          cases e
          have d4 : (0 : Int) ≤ (j : Int) := by omega
          have d5 : (j : Int) < (i : Int) + 1 := by omega
          by_cases hjx : nth q j = i
          · have hjx' := HON.out j (by omega) hjx
            rw [hjx] at cq
            have F2 := hfr.setInt i (j : Int)
            rw [hsetO] at F2
            have F3 : Fr w (wr.setCell ⟨w2.heap.size, i, none⟩ (.int .i64 (j : Int))) [⟨3, .slice (some ⟨w2.heap.size, 0, none⟩) n n, ints (List.replicate i 0 ++ ((if x < j + 1 then (x : Int) else 0) :: s))⟩, ⟨3, .slice (some ⟨w1.heap.size, 0, none⟩) n n, ints q⟩] := by
              rw [if_pos (by omega), ← hjx']; exact F2
            have HF3 := Lib.hid F3
            have q1 : ((i : Int) == (i : Int)) = true := beq_self_eq_true _
            clear hjx hjx' hfr F2 F3 hlenO hsetO hnthO
            go_wp2_with fail
            go_roundw
            case rel => exact ⟨j + 1, by omega, by go_num, HF3.out⟩
            case measure => simp only [intOf]; omega
          · have hjx' : j ≠ x := fun e => hjx (by rw [e]; exact HA2.out)
            obtain ⟨u, hu⟩ : ∃ u, nth q j = u := ⟨_, rfl⟩
            rw [hu] at cq hjx
            have q1 : (u == (i : Int)) = false := by rw [beq_eq_false_iff_ne]; exact hjx
            have F3 : Fr w wr [⟨3, .slice (some ⟨w2.heap.size, 0, none⟩) n n, ints (List.replicate i 0 ++ ((if x < j + 1 then (x : Int) else 0) :: s))⟩, ⟨3, .slice (some ⟨w1.heap.size, 0, none⟩) n n, ints q⟩] := by
              by_cases hxj : x < j
              · rw [if_pos (by omega)]; rw [if_pos hxj] at hfr; exact hfr
              · rw [if_neg (by omega)]; rw [if_neg hxj] at hfr; exact hfr
            have HF3 := Lib.hid F3
            clear hjx hjx' hu hfr F3 hlenO hsetO hnthO
            go_wp2_with fail
            go_roundw
            case rel => exact ⟨j + 1, by omega, by go_num, HF3.out⟩
            case measure => simp only [intOf]; omega
        · obtain rfl : j = i + 1 := by omega
          rw [if_pos (by omega)] at hfr
          obtain ⟨g, e, _, c1, z1⟩ := hfr.openI i (by rw [hlenO]; omega)
          cases e
          rw [hnthO] at c1
          obtain ⟨g2, e2, _, c2, z2⟩ := hfr.swap.openI x (by rw [HQL.out]; omega)
          obtain ⟨g3, e3, _, c3, z3⟩ := hfr.swap.openI i (by rw [HQL.out]; omega)
          cases e2; cases e3
          rw [HV.out] at c3
          have F2 := (hfr.swap.setInt x v).swap.drew
          have HF2 := Lib.hid F2
          clear hfr F2 hlenO hsetO hnthO
          have d4 : (0 : Int) ≤ (x : Int) := by omega
          have d5 : (x : Int) < (n : Int) := by omega
          have d6 : x < n := by omega
          go_wp2_with fail
          go_region
          go_wp2_with fail
          go_roundw
          case rel =>
            refine ⟨i, q.set x v, (x : Int) :: s, by omega, by go_num, Lib.hid ⟨by rw [List.length_set]; exact HQL.out, HA4.out, by rw [List.length_cons, HSL.out]; omega, HLOTS.out⟩, HF2.out⟩
          case measure => simp only [intOf]; omega
    | zero =>
      obtain ⟨ql, qp, sl, qs⟩ := HQ.out
      rw [lotsD, List.nil_append] at qs
      have HE := Lib.hid qs
      clear qs ql qp sl HQ
      go_wp2_with fail
      go_ret2
      refine ⟨_, _, rfl, Nat.le_refl _, ?_⟩
      rw [HE.out]
      exact hfr.sub (by simp)
end Go.Proofs.Ytooghdnlaonkaaa
