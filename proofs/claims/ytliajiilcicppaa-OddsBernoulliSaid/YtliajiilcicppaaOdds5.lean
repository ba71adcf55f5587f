/- Contract of odds.Both. -/
import Derived.Test.YtliajiilcicppaaTwoApp
import Derived.Test.YtliajiilcicppaaOddM2
import Derived.Deep.DrawnRows
namespace Go.Proofs.Ytliajiilcicppaa
open Go.RowKit

def pV (va vb : List Int) (i k : Nat) : List Int := bothV (va.take i) vb ++ (vb.take k).map (nth va i + ·)
def pW (wa wb : List Int) (i k : Nat) : List Int := bothW (wa.take i) wb ++ (wb.take k).map (nth wa i * ·)
theorem pV_0 (va vb : List Int) : pV va vb 0 0 = [] := by simp [pV, bothV]
theorem pW_0 (va vb : List Int) : pW va vb 0 0 = [] := by simp [pW, bothW]
theorem pV_k (va vb : List Int) (i k : Nat) (h : k < vb.length) : pV va vb i (k + 1) = pV va vb i k ++ [nth va i + nth vb k] := by
  unfold pV; rw [take_nth _ _ h, List.map_append, List.append_assoc]; rfl
theorem pW_k (va vb : List Int) (i k : Nat) (h : k < vb.length) : pW va vb i (k + 1) = pW va vb i k ++ [nth va i * nth vb k] := by
  unfold pW; rw [take_nth _ _ h, List.map_append, List.append_assoc]; rfl
theorem pV_i (va vb : List Int) (i : Nat) (h : i < va.length) : pV va vb i vb.length = pV va vb (i + 1) 0 := by
  unfold pV; rw [take_nth _ _ h, bothV_snoc]; simp
theorem pW_i (va vb : List Int) (i : Nat) (h : i < va.length) : pW va vb i vb.length = pW va vb (i + 1) 0 := by
  unfold pW; rw [take_nth _ _ h, bothW_snoc]; simp
theorem pV_all (va vb : List Int) : pV va vb va.length 0 = bothV va vb := by simp [pV]
theorem pW_all (va vb : List Int) : pW va vb va.length 0 = bothW va vb := by simp [pW]
theorem pV_len (va vb : List Int) (i k : Nat) (hi : i ≤ va.length) (hk : k ≤ vb.length) : (pV va vb i k).length = i * vb.length + k := by
  unfold pV; rw [List.length_append, bothV_len, List.length_map, List.length_take, List.length_take, Nat.min_eq_left hi, Nat.min_eq_left hk]
theorem pW_len (va vb : List Int) (i k : Nat) (hi : i ≤ va.length) (hk : k ≤ vb.length) : (pW va vb i k).length = i * vb.length + k := by
  unfold pW; rw [List.length_append, bothW_len, List.length_map, List.length_take, List.length_take, Nat.min_eq_left hi, Nat.min_eq_left hk]
/-- what the loads of the statement read -/
def BothS (B Ea Eb : Nat) (V U Va Ua Vb Ub : Value) (pa pb : Addr) (y z : Int) (w : World) : Prop :=
  w.cell? ⟨B, 0, .none⟩ = some V ∧ w.cell? ⟨B, 1, .none⟩ = some U ∧ w.cell? ⟨Ea, 0, .none⟩ = some Va ∧ w.cell? ⟨Ea, 1, .none⟩ = some Ua ∧ w.cell? ⟨Eb, 0, .none⟩ = some Vb ∧ w.cell? ⟨Eb, 1, .none⟩ = some Ub ∧
  w.cell? pa = some (.int .i64 y) ∧ w.cell? pb = some (.int .i64 z)

theorem bothS_of {w0 w : World} {V E1 U E2 : Ent} {B r Eb Ea : Nat} {v u x1 x2 v1 u1 v2 u2 : Value} (F : Fr w0 w [V, E1, U, E2, eO B v u, eO r x1 x2, eO Eb v1 u1, eO Ea v2 u2])
    {g2 off2 g4 off4 j k : Nat} {wa wb : List Int} {z q : Int} (h2 : Sa w0 (some ⟨g2, off2, .none⟩) (ints wa)) (h4 : Sa w0 (some ⟨g4, off4, .none⟩) (ints wb)) (hj : j < wa.length) (hk : k < wb.length) (hz : nth wa j = z) (hq : nth wb k = q) :
    BothS B Ea Eb v u v2 u2 v1 u1 ⟨g2, off2 + j, .none⟩ ⟨g4, off4 + k, .none⟩ z q w := by
  refine ⟨(F.roAt 4 rfl).1, (F.roAt 4 rfl).2.1, (F.roAt 7 rfl).1, (F.roAt 7 rfl).2.1, (F.roAt 6 rfl).1, (F.roAt 6 rfl).2.1, ?_, ?_⟩
  · obtain ⟨b, off, e, _, hc⟩ := (F.old h2).int j hj
    cases e; rw [← hz]; exact hc
  · obtain ⟨b, off, e, _, hc⟩ := (F.old h4).int k hk
    cases e; rw [← hq]; exact hc

set_option maxRecDepth 100000 in
set_option maxHeartbeats 4000000 in
theorem oddBoth (va wa vb wb : List Int) (n m : Nat) (a1 a2 b1 b2 : Option Addr) (ca1 ca2 cb1 cb2 : Nat) (w : World) (h1 : Sa w a1 (ints va)) (h2 : Sa w a2 (ints wa)) (h3 : Sa w b1 (ints vb)) (h4 : Sa w b2 (ints wb)) (hn : va.length = n) (hm : vb.length = m) (ho : OddOk va wa) (hq : OddOk vb wb) :
    Calls Try.prog 32 #[.agg #[.slice a1 n ca1, .slice a2 n ca2], .agg #[.slice b1 m cb1, .slice b2 m cb2]] w fun e w' => 
      (chkO (bothV va vb) (bothW wa wb) = 0 ∧ ∃ ad1 ad2 c1 c2, e = .returned (.tuple #[.agg #[.slice ad1 (n * m) c1, .slice ad2 (n * m) c2], .int .i64 0]) ∧ Fr w w' [⟨3, .slice ad1 (n * m) c1, ints (bothV va vb)⟩, ⟨3, .slice ad2 (n * m) c2, ints (bothW wa wb)⟩]) ∨
      (chkO (bothV va vb) (bothW wa wb) ≠ 0 ∧ e = .returned (.tuple #[.agg #[.slice .none 0 0, .slice .none 0 0], .int .i64 9]) ∧ Below w.heap.size w w') := by
  have HN := Lib.hid hn; have HNa := Lib.hid (ho.len.trans hn); have HM := Lib.hid hm; have HMb := Lib.hid (hq.len.trans hm)
  have H1 := Lib.hid h1; have H2 := Lib.hid h2; have H3 := Lib.hid h3; have H4 := Lib.hid h4; have HO := Lib.hid ho; have HQ := Lib.hid hq
  have HC := Lib.hid (chkO_of ho); have HC2 := Lib.hid (chkO_of hq)
  have n12 : n ≤ 12 := by rw [← hn]; exact ho.n12
  have m12 : m ≤ 12 := by rw [← hm]; exact hq.n12
  have F0 := Lib.hid ((((Fr.start w).ro (.slice a1 n ca1) (.slice a2 n ca2) w.heap.size rfl).ro (.slice b1 m cb1) (.slice b2 m cb2) (w.heap.size + 1) (by simp)).ro (.slice .none 0 0) (.slice .none 0 0) (w.heap.size + 1 + 1) (by simp))
  clear h1 h2 h3 h4 hn hm ho hq
  go_enter Try.func32, Try.ntmps32
  go_wp2_with fail
  refine (oddChk va wa n n a1 a2 ca1 ca2 _ (F0.out.old H1.out) (F0.out.old H2.out) HN.out HNa.out).mono ?_; rintro e w1 ⟨rfl, hb⟩
  rw [HC.out]
  have F1 := F0.out.keep hb
  obtain ⟨c0, c1, -, -, -, -⟩ := F1.roAt 1 rfl
  have HF1 := Lib.hid F1; clear hb F1
  go_wp2_with fail
  refine (oddChk vb wb m m b1 b2 cb1 cb2 _ (HF1.out.old H3.out) (HF1.out.old H4.out) HM.out HMb.out).mono ?_; rintro e w2 ⟨rfl, hb⟩
  rw [HC2.out]
  have F2 := HF1.out.keep hb
  clear c0 c1
  obtain ⟨c0, c1, -, -, -, -⟩ := F2.roAt 2 rfl
  have HF2 := Lib.hid (F2.ro (.slice .none 0 0) (.slice .none 0 0) w2.heap.size rfl); clear hb F2
  obtain ⟨B, hB⟩ : ∃ B, w2.heap.size = B := ⟨_, rfl⟩
  rw [hB] at HF2
  clear c0 c1
  obtain ⟨c0, c1, -, -, -, -⟩ := HF2.out.roAt 3 rfl
  go_wp2_with fail
  go_loopw [28] (fun i wr => ∃ (j N : Nat) (ad1 ad2 : Option Addr) (q1 q2 : Nat), j ≤ n ∧ i = .int .i64 j ∧ Hid (N = j * m) ∧
    Fr w wr [⟨3, .slice ad1 N q1, ints (pV va vb j 0)⟩, ⟨3, .slice .none 0 0, []⟩, ⟨3, .slice ad2 N q2, ints (pW wa wb j 0)⟩, ⟨3, .slice .none 0 0, []⟩, eO B (.slice ad1 N q1) (.slice ad2 N q2), eO (w.heap.size + 1 + 1) (.slice .none 0 0) (.slice .none 0 0), eO (w.heap.size + 1) (.slice b1 m cb1) (.slice b2 m cb2), eO w.heap.size (.slice a1 n ca1) (.slice a2 n ca2)]) (fun i _ => n - (intOf i).toNat)
  case atStart =>
    refine ⟨0, 0, .none, .none, 0, 0, by omega, rfl, Lib.hid (by simp), ?_⟩
    rw [pV_0, pW_0]
    exact (((HF2.out.nilSlice _).nilSlice _).nilSlice _).nilSlice _
  case round =>
    obtain ⟨j, N0, ad01, ad02, q01, q02, hj, rfl, HN0, hfr⟩ := hrel
    by_cases hlt : j < n
    · obtain ⟨g1, off1, rfl, hb1, hc1⟩ := (hfr.old H1.out).int j (by rw [HN.out]; exact hlt)
      obtain ⟨c0', c1', -, -, -, -⟩ := hfr.roAt 6 rfl
      have e1 : (0 : Int) ≤ (j : Int) := by omega
      have e2 : (j : Int) < (n : Int) := by omega
      obtain ⟨x, hx⟩ : ∃ x, nth va j = x := ⟨_, rfl⟩
      rw [hx] at hc1
      have HX := Lib.hid hx
      have HF3 := Lib.hid hfr
      clear hfr hx
      go_wp2_with fail
      clear c0 c1 c0' c1'
      go_loopw [36] (fun i wr => ∃ (k N : Nat) (ad1 ad2 : Option Addr) (q1 q2 : Nat), k ≤ m ∧ i = .int .i64 k ∧ Hid (N = j * m + k) ∧
        Fr w wr [⟨3, .slice ad1 N q1, ints (pV va vb j k)⟩, ⟨3, .slice .none 0 0, []⟩, ⟨3, .slice ad2 N q2, ints (pW wa wb j k)⟩, ⟨3, .slice .none 0 0, []⟩, eO B (.slice ad1 N q1) (.slice ad2 N q2), eO (w.heap.size + 1 + 1) (.slice .none 0 0) (.slice .none 0 0), eO (w.heap.size + 1) (.slice b1 m cb1) (.slice b2 m cb2), eO w.heap.size (.slice (some ⟨g1, off1, .none⟩) n ca1) (.slice a2 n ca2)]) (fun i _ => m - (intOf i).toNat)
      case atStart => exact ⟨0, N0, ad01, ad02, q01, q02, by omega, rfl, Lib.hid (by rw [HN0.out]; rfl), HF3.out⟩
      case round =>
        obtain ⟨k, N, ad1, ad2, q1, q2, hk, rfl, HNN, hfr⟩ := hrel
        by_cases hlt2 : k < m
        · obtain ⟨g3, off3, rfl, hb3, hc3⟩ := (hfr.old H3.out).int k (by rw [HM.out]; exact hlt2)
          obtain ⟨g2, off2, rfl, hb2, hc2⟩ := (hfr.old H2.out).int j (by rw [HNa.out]; exact hlt)
          obtain ⟨g4, off4, rfl, hb4, hc4⟩ := (hfr.old H4.out).int k (by rw [HMb.out]; exact hlt2)
          have e3 : (0 : Int) ≤ (k : Int) := by omega
          have e4 : (k : Int) < (m : Int) := by omega
          have HVV := HO.out.val j (by rw [HN.out]; exact hlt)
          have HVW := HQ.out.val k (by rw [HM.out]; exact hlt2)
          have pv := pV_k va vb j k (by rw [HM.out]; exact hlt2)
          have pw := pW_k wa wb j k (by rw [HMb.out]; exact hlt2)
          rw [HX.out] at pv HVV
          obtain ⟨y, hy⟩ : ∃ y, nth vb k = y := ⟨_, rfl⟩
          obtain ⟨z, hz⟩ : ∃ z, nth wa j = z := ⟨_, rfl⟩
          obtain ⟨u, hu⟩ : ∃ u, nth wb k = u := ⟨_, rfl⟩
          rw [hy] at pv hc3 HVW
          rw [hz] at pw hc2 HVV
          rw [hu] at pw hc4 HVW
          obtain ⟨v1, v2, v3, v4⟩ := HVV
          obtain ⟨v5, v6, v7, v8⟩ := HVW
          have mz := mul_bdI z u 100 100 (by omega) (by omega)
          obtain ⟨t, ht⟩ : ∃ t, z * u = t := ⟨_, rfl⟩
          rw [ht] at mz pw
          obtain ⟨mz1, mz2⟩ := mz
          have hw1 : IntKind.i64.wrap (x + y) = x + y := IntWalk.i64_in _ (by omega)
          have hw2 : IntKind.i64.wrap t = t := IntWalk.i64_in _ (by omega)
          have HPV := Lib.hid pv; have HPW := Lib.hid pw
          have hS : BothS B w.heap.size (w.heap.size + 1) (.slice ad1 N q1) (.slice ad2 N q2) (.slice (some ⟨g1, off1, .none⟩) n ca1) (.slice (some ⟨g2, off2, .none⟩) n ca2) (.slice (some ⟨g3, off3, .none⟩) m cb1) (.slice (some ⟨g4, off4, .none⟩) m cb2) ⟨g2, off2 + j, .none⟩ ⟨g4, off4 + k, .none⟩ z u wr :=
            ⟨(hfr.roAt 4 rfl).1, (hfr.roAt 4 rfl).2.1, (hfr.roAt 7 rfl).1, (hfr.roAt 7 rfl).2.1, (hfr.roAt 6 rfl).1, (hfr.roAt 6 rfl).2.1, hc2, hc4⟩
          have HF4 := Lib.hid hfr
          have HJ := Lib.hid (show j < wa.length by rw [HNa.out]; exact hlt)
          have HK := Lib.hid (show k < wb.length by rw [HMb.out]; exact hlt2)
          have HZ := Lib.hid hz; have HU := Lib.hid hu
          have HB : Hid (N ≤ 1000000) := Lib.hid (by
            have h1 := HNN.out
            have h2 : j * m ≤ 12 * 12 := Nat.mul_le_mul (by omega) (by omega)
            omega)
          obtain ⟨c0, c1, -, -, -, -⟩ := hfr.roAt 6 rfl
          clear hfr pv pw hy hz hu
          go_wp2_with fail
          clear hc2 hc3 hc4 c0 c1
          refine wp_region_U [23, 25] (BothS B w.heap.size (w.heap.size + 1) (.slice ad1 N q1) (.slice ad2 N q2) (.slice (some ⟨g1, off1, .none⟩) n ca1) (.slice (some ⟨g2, off2, .none⟩) n ca2) (.slice (some ⟨g3, off3, .none⟩) m cb1) (.slice (some ⟨g4, off4, .none⟩) m cb2) ⟨g2, off2 + j, .none⟩ ⟨g4, off4 + k, .none⟩ z u) (by kernel_rfl) ?_
          have hSd : BothS B w.heap.size (w.heap.size + 1) (.slice ad1 N q1) (.slice ad2 N q2) (.slice (some ⟨g1, off1, .none⟩) n ca1) (.slice (some ⟨g2, off2, .none⟩) n ca2) (.slice (some ⟨g3, off3, .none⟩) m cb1) (.slice (some ⟨g4, off4, .none⟩) m cb2) ⟨g2, off2 + j, .none⟩ ⟨g4, off4 + k, .none⟩ z u wr.drew := hS
          refine wpAnyU_takeY (i := 0) (v := ?_) rfl (by kernel_rfl) (by kernel_rfl) (by kernel_rfl) (by kernel_rfl) (fun _ _ _ h => h) (Or.inl ⟨by rfl, ?_⟩) (by assumption) ?_
          rotate_left
          · intro w _; go_simp; try with_reducible rfl
          try simp only [Act.put]
          try simp only [List.setIfInBounds_toArray]
          try simp only [List.set_cons_succ]
          try simp only [List.set_cons_zero]
          refine wpAnyU_take (i := 1) (v := ?_) rfl (by kernel_rfl) (by kernel_rfl) (by kernel_rfl) (by kernel_rfl) (by kernel_rfl) (by kernel_rfl) (fun _ _ _ h => h) (Or.inl ⟨by rfl, ?_⟩) (by assumption) ?_
          rotate_left
          · intro w hSw; obtain ⟨s1, s2, s3, s4, s5, s6, s7, s8⟩ := hSw; go_simp; try with_reducible rfl
          try simp only [Act.put]
          try simp only [List.setIfInBounds_toArray]
          try simp only [List.set_cons_succ]
          try simp only [List.set_cons_zero]
          refine wpAnyU_takeY (i := 2) (v := ?_) rfl (by kernel_rfl) (by kernel_rfl) (by kernel_rfl) (by kernel_rfl) (fun _ _ _ h => h) (Or.inl ⟨by rfl, ?_⟩) (by assumption) ?_
          rotate_left
          · intro w _; go_simp; try with_reducible rfl
          try simp only [Act.put]
          try simp only [List.setIfInBounds_toArray]
          try simp only [List.set_cons_succ]
          try simp only [List.set_cons_zero]
          refine wpAnyU_takeY (i := 3) (v := ?_) rfl (by kernel_rfl) (by kernel_rfl) (by kernel_rfl) (by kernel_rfl) (fun _ _ _ h => h) (Or.inl ⟨by rfl, ?_⟩) (by assumption) ?_
          rotate_left
          · intro w _; go_simp; try with_reducible rfl
          try simp only [Act.put]
          try simp only [List.setIfInBounds_toArray]
          try simp only [List.set_cons_succ]
          try simp only [List.set_cons_zero]
          refine wpAnyU_takeY (i := 4) (v := ?_) rfl (by kernel_rfl) (by kernel_rfl) (by kernel_rfl) (by kernel_rfl) (fun _ _ _ h => h) (Or.inl ⟨by rfl, ?_⟩) (by assumption) ?_
          rotate_left
          · intro w _; go_simp; try with_reducible rfl
          try simp only [Act.put]
          try simp only [List.setIfInBounds_toArray]
          try simp only [List.set_cons_succ]
          try simp only [List.set_cons_zero]
          refine wpAnyU_takeY (i := 7) (v := ?_) rfl (by kernel_rfl) (by kernel_rfl) (by kernel_rfl) (by kernel_rfl) (fun _ _ _ h => h) (Or.inl ⟨by rfl, ?_⟩) (by assumption) ?_
          rotate_left
          · intro w _; go_simp; try with_reducible rfl
          try simp only [Act.put]
          try simp only [List.setIfInBounds_toArray]
          try simp only [List.set_cons_succ]
          try simp only [List.set_cons_zero]
          refine wpAnyU_take (i := 8) (v := ?_) rfl (by kernel_rfl) (by kernel_rfl) (by kernel_rfl) (by kernel_rfl) (by kernel_rfl) (by kernel_rfl) (fun _ _ _ h => h) (Or.inl ⟨by rfl, ?_⟩) (by assumption) ?_
          rotate_left
          · intro w hSw; obtain ⟨s1, s2, s3, s4, s5, s6, s7, s8⟩ := hSw; go_simp; try with_reducible rfl
          try simp only [Act.put]
          try simp only [List.setIfInBounds_toArray]
          try simp only [List.set_cons_succ]
          try simp only [List.set_cons_zero]
          refine wpAnyU_takeY (i := 9) (v := ?_) rfl (by kernel_rfl) (by kernel_rfl) (by kernel_rfl) (by kernel_rfl) (fun _ _ _ h => h) (Or.inl ⟨by rfl, ?_⟩) (by assumption) ?_
          rotate_left
          · intro w _; go_simp; try with_reducible rfl
          try simp only [Act.put]
          try simp only [List.setIfInBounds_toArray]
          try simp only [List.set_cons_succ]
          try simp only [List.set_cons_zero]
          refine wpAnyU_take (i := 10) (v := ?_) rfl (by kernel_rfl) (by kernel_rfl) (by kernel_rfl) (by kernel_rfl) (by kernel_rfl) (by kernel_rfl) (fun _ _ _ h => h) (Or.inl ⟨by rfl, ?_⟩) (by assumption) ?_
          rotate_left
          · intro w hSw; obtain ⟨s1, s2, s3, s4, s5, s6, s7, s8⟩ := hSw; go_simp; try with_reducible rfl
          try simp only [Act.put]
          try simp only [List.setIfInBounds_toArray]
          try simp only [List.set_cons_succ]
          try simp only [List.set_cons_zero]
          refine wpAnyU_takeY (i := 11) (v := ?_) rfl (by kernel_rfl) (by kernel_rfl) (by kernel_rfl) (by kernel_rfl) (fun _ _ _ h => h) (Or.inl ⟨by rfl, ?_⟩) (by assumption) ?_
          rotate_left
          · intro w _; go_simp; try with_reducible rfl
          try simp only [Act.put]
          try simp only [List.setIfInBounds_toArray]
          try simp only [List.set_cons_succ]
          try simp only [List.set_cons_zero]
          refine wpAnyU_takeY (i := 12) (v := ?_) rfl (by kernel_rfl) (by kernel_rfl) (by kernel_rfl) (by kernel_rfl) (fun _ _ _ h => h) (Or.inl ⟨by rfl, ?_⟩) (by assumption) ?_
          rotate_left
          · intro w _; go_simp; try with_reducible rfl
          try simp only [Act.put]
          try simp only [List.setIfInBounds_toArray]
          try simp only [List.set_cons_succ]
          try simp only [List.set_cons_zero]
          refine wpAnyU_take (i := 13) (v := ?_) rfl (by kernel_rfl) (by kernel_rfl) (by kernel_rfl) (by kernel_rfl) (by kernel_rfl) (by kernel_rfl) (fun _ _ _ h => h) (Or.inl ⟨by rfl, ?_⟩) (by assumption) ?_
          rotate_left
          · intro w hSw; obtain ⟨s1, s2, s3, s4, s5, s6, s7, s8⟩ := hSw; go_simp; try with_reducible rfl
          try simp only [Act.put]
          try simp only [List.setIfInBounds_toArray]
          try simp only [List.set_cons_succ]
          try simp only [List.set_cons_zero]
          refine wpAnyU_takeY (i := 14) (v := ?_) rfl (by kernel_rfl) (by kernel_rfl) (by kernel_rfl) (by kernel_rfl) (fun _ _ _ h => h) (Or.inl ⟨by rfl, ?_⟩) (by assumption) ?_
          rotate_left
          · intro w _; go_simp; try with_reducible rfl
          try simp only [Act.put]
          try simp only [List.setIfInBounds_toArray]
          try simp only [List.set_cons_succ]
          try simp only [List.set_cons_zero]
          refine wpAnyU_take (i := 15) (v := ?_) rfl (by kernel_rfl) (by kernel_rfl) (by kernel_rfl) (by kernel_rfl) (by kernel_rfl) (by kernel_rfl) (fun _ _ _ h => h) (Or.inl ⟨by rfl, ?_⟩) (by assumption) ?_
          rotate_left
          · intro w hSw; obtain ⟨s1, s2, s3, s4, s5, s6, s7, s8⟩ := hSw; go_simp; try with_reducible rfl
          try simp only [Act.put]
          try simp only [List.setIfInBounds_toArray]
          try simp only [List.set_cons_succ]
          try simp only [List.set_cons_zero]
          refine wpAnyU_takeY (i := 16) (v := ?_) rfl (by kernel_rfl) (by kernel_rfl) (by kernel_rfl) (by kernel_rfl) (fun _ _ _ h => h) (Or.inl ⟨by rfl, ?_⟩) (by assumption) ?_
          rotate_left
          · intro w _; go_simp; try with_reducible rfl
          try simp only [Act.put]
          try simp only [List.setIfInBounds_toArray]
          try simp only [List.set_cons_succ]
          try simp only [List.set_cons_zero]
          refine wpAnyU_takeY (i := 17) (v := ?_) rfl (by kernel_rfl) (by kernel_rfl) (by kernel_rfl) (by kernel_rfl) (fun _ _ _ h => h) (Or.inl ⟨by rfl, ?_⟩) (by assumption) ?_
          rotate_left
          · intro w _; go_simp; try with_reducible rfl
          try simp only [Act.put]
          try simp only [List.setIfInBounds_toArray]
          try simp only [List.set_cons_succ]
          try simp only [List.set_cons_zero]
          refine wpAnyU_take (i := 18) (v := ?_) rfl (by kernel_rfl) (by kernel_rfl) (by kernel_rfl) (by kernel_rfl) (by kernel_rfl) (by kernel_rfl) (fun _ _ _ h => h) (Or.inl ⟨by rfl, ?_⟩) (by assumption) ?_
          rotate_left
          · intro w hSw; obtain ⟨s1, s2, s3, s4, s5, s6, s7, s8⟩ := hSw; go_simp; try with_reducible rfl
          try simp only [Act.put]
          try simp only [List.setIfInBounds_toArray]
          try simp only [List.set_cons_succ]
          try simp only [List.set_cons_zero]
          refine wpAnyU_takeY (i := 19) (v := ?_) rfl (by kernel_rfl) (by kernel_rfl) (by kernel_rfl) (by kernel_rfl) (fun _ _ _ h => h) (Or.inl ⟨by rfl, ?_⟩) (by assumption) ?_
          rotate_left
          · intro w _; go_simp; try with_reducible rfl
          try simp only [Act.put]
          try simp only [List.setIfInBounds_toArray]
          try simp only [List.set_cons_succ]
          try simp only [List.set_cons_zero]
          have HF := Lib.hid HF4.out
          refine wpAnyU_ready (rs := [5, 20]) (by kernel_rfl) (by simp) ?_
          refine AllReadyU.cons rfl (fun K hK => ?_) ?_
          · go_simp
            have HF := Lib.hid (HF.out.build1 3 (.int .i64 (x + y)) (wr.heap.size) (by simp))
            refine hK.out _ _ (fun _ => bothS_of (HF.out.drew) H2.out H4.out HJ.out HK.out HZ.out HU.out) ?_
            clear hK K
            try simp only [Act.put]
            try simp only [List.setIfInBounds_toArray]
            try simp only [List.set_cons_succ]
            try simp only [List.set_cons_zero]
            refine wpAnyU_ready (rs := [6, 20]) (by kernel_rfl) (by simp) ?_
            refine AllReadyU.cons rfl (fun K hK => ?_) ?_
            · refine step_push rfl (.tmp 42) (.tmp 46) 36 3 (.int .i64 0) 8 Try.underlying36 intInfo rfl (by omega) (by rfl) ad1 N q1 _ (ints (pV va vb j k)) (.int .i64 (x + y)) _ (by rfl) HF.out.drew (by rfl) rfl HB.out ?_
              intro ad1n q1n w3 hf hsz
              have HF := Lib.hid hf
              clear hf hsz
              refine hK.out _ _ (fun _ => bothS_of (HF.out) H2.out H4.out HJ.out HK.out HZ.out HU.out) ?_
              clear hK K
              try simp only [Act.put]
              try simp only [List.setIfInBounds_toArray]
              try simp only [List.set_cons_succ]
              try simp only [List.set_cons_zero]
              refine wpAnyU_takeY (i := 22) (v := ?_) rfl (by kernel_rfl) (by kernel_rfl) (by kernel_rfl) (by kernel_rfl) (fun _ _ _ h => h) (Or.inl ⟨by rfl, ?_⟩) (bothS_of (HF.out) H2.out H4.out HJ.out HK.out HZ.out HU.out) ?_
              rotate_left
              · intro w _; go_simp; try with_reducible rfl
              try simp only [Act.put]
              try simp only [List.setIfInBounds_toArray]
              try simp only [List.set_cons_succ]
              try simp only [List.set_cons_zero]
              refine wpAnyU_ready (rs := [20]) (by kernel_rfl) (by simp) ?_
              refine AllReadyU.cons rfl (fun K hK => ?_) AllReadyU.nil
              go_simp
              have HF := Lib.hid (HF.out.build2 3 (.int .i64 t) (w3.heap.size) (by simp))
              refine hK.out _ _ (fun _ => bothS_of (HF.out) H2.out H4.out HJ.out HK.out HZ.out HU.out) ?_
              clear hK K
              try simp only [Act.put]
              try simp only [List.setIfInBounds_toArray]
              try simp only [List.set_cons_succ]
              try simp only [List.set_cons_zero]
              refine wpAnyU_ready (rs := [21]) (by kernel_rfl) (by simp) ?_
              refine AllReadyU.cons rfl (fun K hK => ?_) AllReadyU.nil
              refine step_push2 rfl (.tmp 49) (.tmp 61) 36 3 (.int .i64 0) 8 Try.underlying36 intInfo rfl (by omega) (by rfl) ad2 N q2 _ (ints (pW wa wb j k)) (.int .i64 t) _ _ _ (by rfl) HF.out (by rfl) rfl HB.out ?_
              intro ad2n q2n w4 hf hsz
              have HF := Lib.hid hf
              clear hf hsz
              refine hK.out _ _ (fun _ => bothS_of (HF.out) H2.out H4.out HJ.out HK.out HZ.out HU.out) ?_
              clear hK K
              try simp only [Act.put]
              try simp only [List.setIfInBounds_toArray]
              try simp only [List.set_cons_succ]
              try simp only [List.set_cons_zero]
              refine wpAnyU_ready (rs := [23]) (by kernel_rfl) (by simp) ?_
              refine AllReadyU.cons rfl (fun K hK => ?_) AllReadyU.nil
              obtain ⟨c0, c1, -, -, c2, c3⟩ := HF.out.roAt 4 rfl
              go_simp
              have HF := Lib.hid (HF.out.store1 (.slice ad1n (N + 1) q1n))
              clear c0 c1 c2 c3
              refine hK.out _ _ (fun h => absurd h (by decide +kernel)) ?_
              clear hK K
              try simp only [Act.put]
              try simp only [List.setIfInBounds_toArray]
              try simp only [List.set_cons_succ]
              try simp only [List.set_cons_zero]
              refine wpAnyU_takeW (i := 24) (v := ?_) rfl (by kernel_rfl) (by kernel_rfl) (by kernel_rfl) (by kernel_rfl) (fun _ _ _ h => h) (Or.inl ⟨by rfl, ?_⟩) ?_
              rotate_left
              · intro w _; go_simp; try with_reducible rfl
              try simp only [Act.put]
              try simp only [List.setIfInBounds_toArray]
              try simp only [List.set_cons_succ]
              try simp only [List.set_cons_zero]
              refine wpAnyU_ready (rs := [25]) (by kernel_rfl) (by simp) ?_
              refine AllReadyU.cons rfl (fun K hK => ?_) AllReadyU.nil
              obtain ⟨c0, c1, -, -, c2, c3⟩ := HF.out.roAt 4 rfl
              go_simp
              have HF := Lib.hid (HF.out.store2 (.slice ad2n (N + 1) q2n))
              clear c0 c1 c2 c3
              refine hK.out _ _ (fun h => absurd h (by decide +kernel)) ?_
              clear hK K
              try simp only [Act.put]
              try simp only [List.setIfInBounds_toArray]
              try simp only [List.set_cons_succ]
              try simp only [List.set_cons_zero]
              refine wpAnyU_done (by kernel_rfl) ?_ _
              go_wp2_with fail
              go_roundw
              case rel => exact ⟨k + 1, N + 1, ad1n, ad2n, q1n, q2n, by omega, by go_num, Lib.hid (by rw [HNN.out]; omega), by rw [HPV.out, HPW.out, ← ints_snoc, ← ints_snoc]; exact HF.out.reset _ _⟩
              case measure => simp only [intOf]; omega
            refine AllReadyU.cons rfl (fun K hK => ?_) AllReadyU.nil
            go_simp
            have HF := Lib.hid (HF.out.build2 3 (.int .i64 t) (wr.heap.size + 1) (by simp))
            refine hK.out _ _ (fun _ => bothS_of (HF.out.drew) H2.out H4.out HJ.out HK.out HZ.out HU.out) ?_
            clear hK K
            try simp only [Act.put]
            try simp only [List.setIfInBounds_toArray]
            try simp only [List.set_cons_succ]
            try simp only [List.set_cons_zero]
            refine wpAnyU_ready (rs := [6]) (by kernel_rfl) (by simp) ?_
            refine AllReadyU.cons rfl (fun K hK => ?_) AllReadyU.nil
            refine step_push rfl (.tmp 42) (.tmp 46) 36 3 (.int .i64 0) 8 Try.underlying36 intInfo rfl (by omega) (by rfl) ad1 N q1 _ (ints (pV va vb j k)) (.int .i64 (x + y)) _ (by rfl) HF.out.drew (by rfl) rfl HB.out ?_
            intro ad1n q1n w3 hf hsz
            have HF := Lib.hid hf
            clear hf hsz
            refine hK.out _ _ (fun _ => bothS_of (HF.out) H2.out H4.out HJ.out HK.out HZ.out HU.out) ?_
            clear hK K
            try simp only [Act.put]
            try simp only [List.setIfInBounds_toArray]
            try simp only [List.set_cons_succ]
            try simp only [List.set_cons_zero]
            refine wpAnyU_takeY (i := 22) (v := ?_) rfl (by kernel_rfl) (by kernel_rfl) (by kernel_rfl) (by kernel_rfl) (fun _ _ _ h => h) (Or.inl ⟨by rfl, ?_⟩) (bothS_of (HF.out) H2.out H4.out HJ.out HK.out HZ.out HU.out) ?_
            rotate_left
            · intro w _; go_simp; try with_reducible rfl
            try simp only [Act.put]
            try simp only [List.setIfInBounds_toArray]
            try simp only [List.set_cons_succ]
            try simp only [List.set_cons_zero]
            refine wpAnyU_ready (rs := [21]) (by kernel_rfl) (by simp) ?_
            refine AllReadyU.cons rfl (fun K hK => ?_) AllReadyU.nil
            refine step_push2 rfl (.tmp 49) (.tmp 61) 36 3 (.int .i64 0) 8 Try.underlying36 intInfo rfl (by omega) (by rfl) ad2 N q2 _ (ints (pW wa wb j k)) (.int .i64 t) _ _ _ (by rfl) HF.out (by rfl) rfl HB.out ?_
            intro ad2n q2n w4 hf hsz
            have HF := Lib.hid hf
            clear hf hsz
            refine hK.out _ _ (fun _ => bothS_of (HF.out) H2.out H4.out HJ.out HK.out HZ.out HU.out) ?_
            clear hK K
            try simp only [Act.put]
            try simp only [List.setIfInBounds_toArray]
            try simp only [List.set_cons_succ]
            try simp only [List.set_cons_zero]
            refine wpAnyU_ready (rs := [23]) (by kernel_rfl) (by simp) ?_
            refine AllReadyU.cons rfl (fun K hK => ?_) AllReadyU.nil
            obtain ⟨c0, c1, -, -, c2, c3⟩ := HF.out.roAt 4 rfl
            go_simp
            have HF := Lib.hid (HF.out.store1 (.slice ad1n (N + 1) q1n))
            clear c0 c1 c2 c3
            refine hK.out _ _ (fun h => absurd h (by decide +kernel)) ?_
            clear hK K
            try simp only [Act.put]
            try simp only [List.setIfInBounds_toArray]
            try simp only [List.set_cons_succ]
            try simp only [List.set_cons_zero]
            refine wpAnyU_takeW (i := 24) (v := ?_) rfl (by kernel_rfl) (by kernel_rfl) (by kernel_rfl) (by kernel_rfl) (fun _ _ _ h => h) (Or.inl ⟨by rfl, ?_⟩) ?_
            rotate_left
            · intro w _; go_simp; try with_reducible rfl
            try simp only [Act.put]
            try simp only [List.setIfInBounds_toArray]
            try simp only [List.set_cons_succ]
            try simp only [List.set_cons_zero]
            refine wpAnyU_ready (rs := [25]) (by kernel_rfl) (by simp) ?_
            refine AllReadyU.cons rfl (fun K hK => ?_) AllReadyU.nil
            obtain ⟨c0, c1, -, -, c2, c3⟩ := HF.out.roAt 4 rfl
            go_simp
            have HF := Lib.hid (HF.out.store2 (.slice ad2n (N + 1) q2n))
            clear c0 c1 c2 c3
            refine hK.out _ _ (fun h => absurd h (by decide +kernel)) ?_
            clear hK K
            try simp only [Act.put]
            try simp only [List.setIfInBounds_toArray]
            try simp only [List.set_cons_succ]
            try simp only [List.set_cons_zero]
            refine wpAnyU_done (by kernel_rfl) ?_ _
            go_wp2_with fail
            go_roundw
            case rel => exact ⟨k + 1, N + 1, ad1n, ad2n, q1n, q2n, by omega, by go_num, Lib.hid (by rw [HNN.out]; omega), by rw [HPV.out, HPW.out, ← ints_snoc, ← ints_snoc]; exact HF.out.reset _ _⟩
            case measure => simp only [intOf]; omega
          refine AllReadyU.cons rfl (fun K hK => ?_) AllReadyU.nil
          go_simp
          have HF := Lib.hid (HF.out.build2 3 (.int .i64 t) (wr.heap.size) (by simp))
          refine hK.out _ _ (fun _ => bothS_of (HF.out.drew) H2.out H4.out HJ.out HK.out HZ.out HU.out) ?_
          clear hK K
          try simp only [Act.put]
          try simp only [List.setIfInBounds_toArray]
          try simp only [List.set_cons_succ]
          try simp only [List.set_cons_zero]
          refine wpAnyU_ready (rs := [5]) (by kernel_rfl) (by simp) ?_
          refine AllReadyU.cons rfl (fun K hK => ?_) AllReadyU.nil
          go_simp
          have HF := Lib.hid (HF.out.build1 3 (.int .i64 (x + y)) (wr.heap.size + 1) (by simp))
          refine hK.out _ _ (fun _ => bothS_of (HF.out.drew) H2.out H4.out HJ.out HK.out HZ.out HU.out) ?_
          clear hK K
          try simp only [Act.put]
          try simp only [List.setIfInBounds_toArray]
          try simp only [List.set_cons_succ]
          try simp only [List.set_cons_zero]
          refine wpAnyU_ready (rs := [6]) (by kernel_rfl) (by simp) ?_
          refine AllReadyU.cons rfl (fun K hK => ?_) AllReadyU.nil
          refine step_push rfl (.tmp 42) (.tmp 46) 36 3 (.int .i64 0) 8 Try.underlying36 intInfo rfl (by omega) (by rfl) ad1 N q1 _ (ints (pV va vb j k)) (.int .i64 (x + y)) _ (by rfl) HF.out.drew (by rfl) rfl HB.out ?_
          intro ad1n q1n w3 hf hsz
          have HF := Lib.hid hf
          clear hf hsz
          refine hK.out _ _ (fun _ => bothS_of (HF.out) H2.out H4.out HJ.out HK.out HZ.out HU.out) ?_
          clear hK K
          try simp only [Act.put]
          try simp only [List.setIfInBounds_toArray]
          try simp only [List.set_cons_succ]
          try simp only [List.set_cons_zero]
          refine wpAnyU_takeY (i := 22) (v := ?_) rfl (by kernel_rfl) (by kernel_rfl) (by kernel_rfl) (by kernel_rfl) (fun _ _ _ h => h) (Or.inl ⟨by rfl, ?_⟩) (bothS_of (HF.out) H2.out H4.out HJ.out HK.out HZ.out HU.out) ?_
          rotate_left
          · intro w _; go_simp; try with_reducible rfl
          try simp only [Act.put]
          try simp only [List.setIfInBounds_toArray]
          try simp only [List.set_cons_succ]
          try simp only [List.set_cons_zero]
          refine wpAnyU_ready (rs := [21]) (by kernel_rfl) (by simp) ?_
          refine AllReadyU.cons rfl (fun K hK => ?_) AllReadyU.nil
          refine step_push2 rfl (.tmp 49) (.tmp 61) 36 3 (.int .i64 0) 8 Try.underlying36 intInfo rfl (by omega) (by rfl) ad2 N q2 _ (ints (pW wa wb j k)) (.int .i64 t) _ _ _ (by rfl) HF.out (by rfl) rfl HB.out ?_
          intro ad2n q2n w4 hf hsz
          have HF := Lib.hid hf
          clear hf hsz
          refine hK.out _ _ (fun _ => bothS_of (HF.out) H2.out H4.out HJ.out HK.out HZ.out HU.out) ?_
          clear hK K
          try simp only [Act.put]
          try simp only [List.setIfInBounds_toArray]
          try simp only [List.set_cons_succ]
          try simp only [List.set_cons_zero]
          refine wpAnyU_ready (rs := [23]) (by kernel_rfl) (by simp) ?_
          refine AllReadyU.cons rfl (fun K hK => ?_) AllReadyU.nil
          obtain ⟨c0, c1, -, -, c2, c3⟩ := HF.out.roAt 4 rfl
          go_simp
          have HF := Lib.hid (HF.out.store1 (.slice ad1n (N + 1) q1n))
          clear c0 c1 c2 c3
          refine hK.out _ _ (fun h => absurd h (by decide +kernel)) ?_
          clear hK K
          try simp only [Act.put]
          try simp only [List.setIfInBounds_toArray]
          try simp only [List.set_cons_succ]
          try simp only [List.set_cons_zero]
          refine wpAnyU_takeW (i := 24) (v := ?_) rfl (by kernel_rfl) (by kernel_rfl) (by kernel_rfl) (by kernel_rfl) (fun _ _ _ h => h) (Or.inl ⟨by rfl, ?_⟩) ?_
          rotate_left
          · intro w _; go_simp; try with_reducible rfl
          try simp only [Act.put]
          try simp only [List.setIfInBounds_toArray]
          try simp only [List.set_cons_succ]
          try simp only [List.set_cons_zero]
          refine wpAnyU_ready (rs := [25]) (by kernel_rfl) (by simp) ?_
          refine AllReadyU.cons rfl (fun K hK => ?_) AllReadyU.nil
          obtain ⟨c0, c1, -, -, c2, c3⟩ := HF.out.roAt 4 rfl
          go_simp
          have HF := Lib.hid (HF.out.store2 (.slice ad2n (N + 1) q2n))
          clear c0 c1 c2 c3
          refine hK.out _ _ (fun h => absurd h (by decide +kernel)) ?_
          clear hK K
          try simp only [Act.put]
          try simp only [List.setIfInBounds_toArray]
          try simp only [List.set_cons_succ]
          try simp only [List.set_cons_zero]
          refine wpAnyU_done (by kernel_rfl) ?_ _
          go_wp2_with fail
          go_roundw
          case rel => exact ⟨k + 1, N + 1, ad1n, ad2n, q1n, q2n, by omega, by go_num, Lib.hid (by rw [HNN.out]; omega), by rw [HPV.out, HPW.out, ← ints_snoc, ← ints_snoc]; exact HF.out.reset _ _⟩
          case measure => simp only [intOf]; omega
        · obtain rfl : k = m := by omega
          have e := pV_i va vb j (by rw [HN.out]; exact hlt)
          have e' := pW_i wa wb j (by rw [HNa.out]; exact hlt)
          rw [HM.out] at e
          rw [HMb.out] at e'
          rw [e, e'] at hfr
          have HF4 := Lib.hid hfr
          clear hfr e e'
          go_wp2_with fail
          go_roundw
          case rel => exact ⟨j + 1, N, ad1, ad2, q1, q2, by omega, by go_num, Lib.hid (by rw [HNN.out, Nat.add_mul]; omega), HF4.out⟩
          case measure => simp only [intOf]; omega
    · obtain rfl : j = n := by omega
      have e := pV_all va vb
      have e' := pW_all wa wb
      rw [HN.out] at e
      rw [HNa.out] at e'
      rw [e, e'] at hfr
      obtain rfl : N0 = j * m := HN0.out
      have HL : Hid ((bothV va vb).length = j * m) := Lib.hid (by rw [bothV_len, HN.out, HM.out])
      have HL' : Hid ((bothW wa wb).length = j * m) := Lib.hid (by rw [bothW_len, HNa.out, HMb.out])
      obtain ⟨c0, c1, -, -, -, -⟩ := hfr.roAt 4 rfl
      have HF4 := Lib.hid hfr
      clear hfr e e'
      clear HN0
      go_wp2_with fail
      refine (oddChk (bothV va vb) (bothW wa wb) (j * m) (j * m) ad01 ad02 q01 q02 _ (HF4.out.get 0 rfl) (HF4.out.get 2 rfl) HL.out HL'.out).mono ?_; rintro e w3 ⟨rfl, hb⟩
      have F5 := HF4.out.keep hb
      clear c0 c1 hb
      obtain ⟨c0, c1, -, -, -, -⟩ := F5.roAt 4 rfl
      have F6 : Fr w w3 [⟨3, .slice ad01 (j * m) q01, ints (bothV va vb)⟩, ⟨3, .slice ad02 (j * m) q02, ints (bothW wa wb)⟩, eO (w.heap.size + 1 + 1) (.slice .none 0 0) (.slice .none 0 0)] :=
        F5.sub (.cons_cons _ (.cons _ (.cons_cons _ (.cons _ (.cons _ (.cons_cons _ (List.nil_sublist _)))))))
      obtain ⟨d0, d1, d2, d3, d4, d5⟩ := F6.roAt 2 rfl
      have HF6 := Lib.hid F6.rot
      clear F5 F6
      by_cases hch : chkO (bothV va vb) (bothW wa wb) = 0
      · rw [hch]
        have HCH := Lib.hid hch
        clear hch
        go_wp2_with fail
        exact bodyPost_ret (v := .tuple #[.agg #[.slice ad01 (j * m) q01, .slice ad02 (j * m) q02], .int .i64 0]) (by simp [results, Try.results32, go_sem, d0, d1]) rfl
          (.inl ⟨HCH.out, ad01, ad02, q01, q02, rfl, ((HF6.out.set 0 _).set 1 _).tail⟩)
      · obtain ⟨er, he⟩ : ∃ er, chkO (bothV va vb) (bothW wa wb) = er := ⟨_, rfl⟩
        have HCH := Lib.hid hch
        rw [he] at hch ⊢
        have z : (er != 0) = true := by rw [bne_iff_ne]; exact hch
        clear hch he
        go_wp2_with fail
        exact bodyPost_ret (v := .tuple #[.agg #[.slice .none 0 0, .slice .none 0 0], .int .i64 9]) (by simp [results, Try.results32, go_sem, d0, d1]) rfl
          (.inr ⟨HCH.out, rfl, ((HF6.out.set 0 _).set 1 _).bel⟩)
end Go.Proofs.Ytliajiilcicppaa
