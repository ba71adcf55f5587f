/- Several of my texts in one: Next. -/
import Derived.Test.YtooghdnlaonkaaaPw12
import Derived.Test.YtooghdnlaonkaaaPw13
/- Contracts of rank.Next and of slices.IsSorted over a sorted slice. -/
namespace Go.Proofs.Ytooghdnlaonkaaa
open Go.RowKit

/-- x[i+1:] of an own slice -/
theorem slice_fromG (g n cap i : Nat) (hk : i + 1 < n) (hc : n ≤ cap) :
    ∀ W, Sem.run Try.prog (Instr.slice 32 (.slice (some ⟨g, 0, none⟩) n cap) (some (.int .i64 ((i : Int) + 1))) none none) W = .ok (.slice (some ⟨g, i + 1, none⟩) (n - (i + 1)) (cap - (i + 1))) W := by
  intro W
  have ht : Try.prog.underlying 32 = some (.slice (Try.prog.elem 32)) := by rw [intElem]; exact Try.underlying32
  have hsz : Sem.run Try.prog (sizeOf (Try.prog.elem 32)) W = .ok 1 W := by
    rw [intElem]
    have hT := intSize
    cases hi : Try.prog.info? 3 with
    | none => rw [hi] at hT; cases hT
    | some i => rw [hi] at hT; simp at hT; simp [sizeOf, typeInfo, go_sem, hi, hT]
  rw [run_slice_l W 32 (some ⟨g, 0, none⟩) n cap ht .i64 ((i : Int) + 1) (by omega) (by omega), hsz]
  have e1 : ((i : Int) + 1).toNat = i + 1 := by omega
  simp only [Result.andThen, sliced, e1]
  rw [if_neg (by omega)]
  have e : (some ⟨g, 0, none⟩ : Option Addr).map (·.add ((i + 1) * 1)) = some ⟨g, i + 1, none⟩ := by
    simp only [Option.map_some, Nat.mul_one]; unfold Addr.add; split
    · next h => simp_all
    · simp
  rw [e]

def NextSaid (p : List Int) (n : Nat) (w : World) (e : Ending) (w' : World) : Prop :=
  (DecF p 0 ∧ e = .returned (.tuple #[.slice .none 0 0, .int .i64 4]) ∧ Fr w w' []) ∨
  ∃ q i ad cp, NextOf p q i ∧ e = .returned (.tuple #[.slice ad n cp, .int .i64 0]) ∧ n ≤ cp ∧ Fr w w' [⟨3, .slice ad n cp, ints q⟩]

set_option maxRecDepth 100000 in
set_option maxHeartbeats 4000000 in
theorem rankNext (p : List Int) (n : Nat) (a : Option Addr) (cap : Nat) (w : World) (h : Sa w a (ints p)) (hn : p.length = n) (hp : IsP p) (h10 : n ≤ 10) :
    Calls Try.prog 53 #[.slice a n cap] w (NextSaid p n w) := by
  have HN := Lib.hid hn; have HS := Lib.hid h; have HP := Lib.hid hp
  clear hn h hp
  rcases Nat.eq_zero_or_pos n with rfl | hpos
  · have D0 : Hid (DecF p 0) := Lib.hid fun i j _ _ h3 => by rw [HN.out] at h3; omega
    go_enter Try.func53, Try.ntmps53
    go_wp2_with fail
    refine (permChk p 0 _ _ _ HS.out HN.out HP.out (by omega)).mono ?_; rintro e w1 ⟨rfl, F1⟩
    go_wp2_with fail
    go_loopw [5] (fun i wr => i = .int .i64 (-2) ∧ Fr w wr []) (fun i _ => 0)
    case atStart => exact ⟨rfl, F1⟩
    case round =>
      obtain ⟨rfl, hfr⟩ := hrel
      go_wp2_with fail
      go_region
      go_wp2_with fail
      go_ret2
      exact .inl ⟨D0.out, rfl, hfr.drew⟩
  · go_enter Try.func53, Try.ntmps53
    go_wp2_with fail
    refine (permChk p n _ _ _ HS.out HN.out HP.out (by omega)).mono ?_; rintro e w1 ⟨rfl, F1⟩
    go_wp2_with fail
    go_loopw [5] (fun i wr => ∃ k : Nat, i = .int .i64 ((k : Int) - 1) ∧ k < n ∧ Hid (DecF p k) ∧ Fr w wr []) (fun i _ => (intOf i + 1).toNat)
    case atStart => exact ⟨n - 1, by congr 1; omega, by omega, Lib.hid (fun i j h1 h2 h3 => by rw [HN.out] at h3; omega), F1⟩
    case round =>
      obtain ⟨k, rfl, hk, HD, hfr⟩ := hrel
      clear F1
      cases k with
      | zero =>
        rw [show ((0 : Nat) : Int) - 1 = -1 from rfl]
        go_wp2_with fail
        go_region
        go_wp2_with fail
        go_ret2
        exact .inl ⟨HD.out, rfl, hfr.drew⟩
      | succ k =>
        rw [show ((k + 1 : Nat) : Int) - 1 = (k : Int) from by omega]
        obtain ⟨b1, o1, rfl, hb1, c1⟩ := (hfr.old HS.out).int k (by rw [HN.out]; omega)
        obtain ⟨b2, o2, e, hb2, c2⟩ := (hfr.old HS.out).int (k + 1) (by rw [HN.out]; omega)
        cases e
        have d1 : (0 : Int) ≤ (k : Int) := by omega
        have d2 : (k : Int) < (n : Int) := by omega
        have d3 : (0 : Int) ≤ (k : Int) + 1 := by omega
        have d4 : (k : Int) + 1 < (n : Int) := by omega
        have d5 : decide ((0 : Int) ≤ (k : Int)) = true := decide_eq_true d1
        by_cases hgt : nth p (k + 1) < nth p k
        · have HD2 : Hid (DecF p k) := Lib.hid fun i j h1 h2 h3 => by
            by_cases e1 : i = k
            · subst e1
              by_cases e2 : j = i + 1
              · subst e2; exact hgt
              · have := HD.out (i + 1) j (by omega) (by omega) h3; omega
            · exact HD.out i j (by omega) h2 h3
          obtain ⟨x, hx⟩ : ∃ x, nth p k = x := ⟨_, rfl⟩
          obtain ⟨y, hy⟩ : ∃ y, nth p (k + 1) = y := ⟨_, rfl⟩
          rw [hx] at hgt c1
          rw [hy] at hgt c2
          clear hx hy
          have d6 : decide (y < x) = true := decide_eq_true hgt
          go_wp2_with fail
          go_region
          go_wp2_with fail
          exact ⟨⟨k, rfl, by omega, HD2, hfr.drew⟩, by simp only [intOf]; omega⟩
        · have hlt : nth p k < nth p (k + 1) := by
            have := fun e => HP.out.inj k (k + 1) (by rw [HN.out]; omega) (by rw [HN.out]; omega) e
            omega
          have HLT := Lib.hid hlt
          obtain ⟨x, hx⟩ : ∃ x, nth p k = x := ⟨_, rfl⟩
          obtain ⟨y, hy⟩ : ∃ y, nth p (k + 1) = y := ⟨_, rfl⟩
          rw [hx] at hlt c1
          rw [hy] at hlt c2
          have HX := Lib.hid hx
          clear hx hy hgt
          have d6 : decide (y < x) = false := decide_eq_false (by omega)
          go_wp2_with fail
          go_region
          go_wp2_with fail
          clear c1 c2
          refine (slClone p n _ _ _ (hfr.drew.old HS.out) HN.out (by omega)).mono ?_; rintro e w2 ⟨ad2, cp2, rfl, hc2, hf⟩
          have F2 := hfr.drew.call hf
          obtain ⟨g, rfl, -⟩ := F2.open (by rw [ints_len, HN.out]; omega)
          clear hfr hf
          go_wp2_with fail
          go_loopw [7] (fun i wr => ∃ j : Nat, i = .int .i64 (j : Int) ∧ k < j ∧ j < n ∧ Hid (∀ t, j < t → t < n → nth p t < nth p k) ∧ Fr w wr [⟨3, .slice (some ⟨g, 0, none⟩) n cp2, ints p⟩]) (fun i _ => (intOf i).toNat)
          case atStart => exact ⟨n - 1, by congr 1; omega, by omega, by omega, Lib.hid (fun t h1 h2 => by omega), F2⟩
          case round =>
            obtain ⟨j, rfl, hkj, hj, HG, hfr⟩ := hrel
            clear F2
            obtain ⟨_, e, _, c1, f1⟩ := hfr.openI j (by rw [HN.out]; omega)
            cases e
            obtain ⟨_, e, _, c2, f2⟩ := hfr.openI k (by rw [HN.out]; omega)
            cases e
            have d7 : (0 : Int) ≤ (j : Int) := by omega
            have d8 : (j : Int) < (n : Int) := by omega
            rw [HX.out] at c2
            by_cases hless : nth p j < nth p k
            · have hj2 : k + 1 < j := by
                rcases Nat.lt_or_eq_of_le (show k + 1 ≤ j by omega) with h | h
                · exact h
                · subst h; have := HLT.out; omega
              have HG2 : Hid (∀ t, j - 1 < t → t < n → nth p t < nth p k) := Lib.hid fun t h1 h2 => by
                by_cases e : t = j
                · subst e; exact hless
                · exact HG.out t (by omega) h2
              rw [HX.out] at hless
              obtain ⟨z, hz⟩ : ∃ z, nth p j = z := ⟨_, rfl⟩
              rw [hz] at hless c1
              clear hz
              go_wp2_with fail
              go_region
              go_wp2_with fail
              exact ⟨⟨j - 1, by congr 1; omega, by omega, by omega, HG2, hfr.drew⟩, by simp only [intOf]; omega⟩
            · have hmore : nth p k < nth p j := by
                have := fun e => HP.out.inj k j (by rw [HN.out]; omega) (by rw [HN.out]; omega) e
                omega
              have NX := Lib.hid (next_of HP.out n k j HN.out (by omega) HD.out hkj hj hmore HG.out)
              have F5 := hfr.drew.setInt k (nth p j)
              obtain ⟨_, e, _, c3, f3⟩ := F5.openI j (by rw [List.length_set, HN.out]; omega)
              cases e
              obtain ⟨v, hv⟩ : ∃ v, nth (p.set k (nth p j)) j = v := ⟨_, rfl⟩
              rw [hv] at c3
              have F6 := (F5.setInt j (nth p k)).drew
              have HSW : Hid ((p.set k (nth p j)).set j (nth p k) = swp p k j) := Lib.hid rfl
              rw [HSW.out] at F6
              obtain ⟨z, hz⟩ : ∃ z, nth p j = z := ⟨_, rfl⟩
              rw [HX.out, hz] at hmore
              rw [HX.out] at F6
              rw [hz] at c1 c3 F6 f3
              have F7 := Lib.hid F6
              have hsl := slice_fromG g n cp2 k (by omega) (by omega)
              clear hz F5 F6 hv hless hfr
              go_wp2_with fail
              go_region
              go_wp2_with fail
              go_region
              go_wp2_with fail
              refine (slReverse (swp p k j) n cp2 g (k + 1) (n - (k + 1)) _ [] _ F7.out (by rw [swp_len, HN.out]; omega) (by omega)).mono ?_; rintro e w3 ⟨rfl, hf3⟩
              have HF3 := Lib.hid hf3
              clear hf3 hsl c1 c2 c3 f1 f2 f3
              go_wp2_with fail
              go_ret2
              exact .inr ⟨_, k, _, _, NX.out, rfl, by omega, HF3.out⟩
end Go.Proofs.Ytooghdnlaonkaaa
