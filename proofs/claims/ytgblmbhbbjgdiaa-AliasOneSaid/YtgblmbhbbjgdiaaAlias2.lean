/- Contracts of alias tables: Test, Draw. -/
import Derived.Test.YtgblmbhbbjgdiaaAlias
namespace Go.Proofs.Ytgblmbhbbjgdiaa
open Go.RowKit

def gotL (C : List Int) (S : Int) (n c : Nat) : List Int := (List.range n).map fun i => sumA (givesC C S i) c
theorem gotL_len (C : List Int) (S : Int) (n c : Nat) : (gotL C S n c).length = n := by simp [gotL]
theorem gotL_nth (C : List Int) (S : Int) (n c i : Nat) (h : i < n) : nth (gotL C S n c) i = sumA (givesC C S i) c := by simp [gotL, nth, h]
theorem gotL_zero (C : List Int) (S : Int) (n : Nat) : List.replicate n 0 = gotL C S n 0 := ext_nth (by simp [gotL]) (fun i hi => by
  rw [List.length_replicate] at hi
  rw [nth_rep _ _ _ hi, gotL_nth _ _ _ _ _ hi]; rfl)
def addAt (l : List Int) (i : Nat) (x : Int) : List Int := l.set i (nth l i + x)
theorem addAt_len (l : List Int) (i : Nat) (x : Int) : (addAt l i x).length = l.length := by simp [addAt]
theorem addAt_nth (l : List Int) (i : Nat) (x : Int) (j : Nat) (h : i < l.length) : nth (addAt l i x) j = nth l j + if j = i then x else 0 := by
  unfold addAt
  rw [nth_set _ _ _ _ h]
  by_cases e : j = i
  · subst e; rw [if_pos rfl, if_pos rfl]
  · rw [if_neg e, if_neg e]; omega
theorem gotL_step (C : List Int) (S : Int) (n c o : Nat) (hc : c < n) (ho : oth C c = o) (hon : o < n) : addAt (addAt (gotL C S n c) c (cut C c)) o (S - cut C c) = gotL C S n (c + 1) :=
  ext_nth (by rw [addAt_len, addAt_len, gotL_len, gotL_len]) (fun i hi => by
    rw [addAt_len, addAt_len, gotL_len] at hi
    rw [addAt_nth _ _ _ _ (by rw [addAt_len, gotL_len]; exact hon), addAt_nth _ _ _ _ (by rw [gotL_len]; exact hc), gotL_nth _ _ _ _ _ hi, gotL_nth _ _ _ _ _ hi, sumA]
    unfold givesC
    rw [ho]
    have h1 : (if c = i then cut C c else 0) = if i = c then cut C c else 0 := by
      by_cases e : i = c
      · rw [if_pos e, if_pos e.symm]
      · rw [if_neg e, if_neg (fun h => e h.symm)]
    have h2 : (if (o : Int) = (i : Int) then S - cut C c else 0) = if i = o then S - cut C c else 0 := by
      by_cases e : i = o
      · rw [if_pos e, if_pos (by omega)]
      · rw [if_neg e, if_neg (by omega)]
    rw [h1, h2, Int.add_assoc])
structure ColOk (C : List Int) (n : Nat) (S : Int) : Prop where
  len : C.length = n * 2
  cb : ∀ c, c < n → (0 ≤ cut C c ∧ cut C c ≤ S) ∧ 0 ≤ oth C c ∧ oth C c < n
theorem TabOk.col {w C : List Int} {n : Nat} {S : Int} (h : TabOk w C n S) : ColOk C n S := ⟨h.len, h.cb⟩
theorem gives_bd {C : List Int} {n : Nat} {S : Int} (h : ColOk C n S) (i c : Nat) (hc : c < n) : 0 ≤ givesC C S i c ∧ givesC C S i c ≤ 2 * S := by
  have := (h.cb c hc).1
  unfold givesC
  split <;> split <;> omega
theorem got_bd {C : List Int} {n : Nat} {S : Int} (h : ColOk C n S) (i : Nat) : ∀ c : Nat, c ≤ n → 0 ≤ sumA (givesC C S i) c ∧ sumA (givesC C S i) c ≤ c * (2 * S) := fun c hc => sumA_bd (2 * S) c (fun t ht => gives_bd h i t (by omega))

set_option maxRecDepth 100000 in
set_option maxHeartbeats 8000000 in
theorem aliasTest_bad (l : List Int) (n : Nat) (a : Option Addr) (ca : Nat) (v : Value) (w : World) (h : Sa w a (ints l)) (hn : l.length = n) (h0 : chkA l ≠ 0) :
    Calls Try.prog 23 #[.slice a n ca, v] w fun e w' => e = .returned (.tuple #[.bool false, .int .i64 (chkA l)]) ∧ w = w' := by
  have HN := Lib.hid hn; have HS := Lib.hid h
  obtain ⟨er, her⟩ : ∃ er, chkA l = er := ⟨_, rfl⟩
  rw [her] at h0
  have HE := Lib.hid her
  have z : (er != 0) = true := bne_iff_ne.2 h0
  clear her h0 hn h
  go_enter Try.func23, Try.ntmps23
  go_wp2_with fail
  refine (aliasCheck l n _ _ _ HS.out HN.out).mono ?_; rintro e w' ⟨rfl, rfl⟩
  rw [HE.out]
  go_wp2_with fail
  go_ret2
  exact ⟨by rw [HE.out]; rfl, rfl⟩

set_option maxRecDepth 100000 in
set_option maxHeartbeats 8000000 in
theorem aliasTest (l C : List Int) (n : Nat) (S : Int) (a b : Option Addr) (ca cb : Nat) (w : World) (h : Sa w a (ints l)) (hn : l.length = n) (h' : Sa w b (ints C)) (hc : chkA l = 0) (hS : sumA (nth l) n = S) (hC : ColOk C n S) :
    Calls Try.prog 23 #[.slice a n ca, .slice b n cb] w fun e w' => e = .returned (.tuple #[.bool (decide (∀ i, i < n → sumA (givesC C S i) n = nth l i * n)), .int .i64 0]) ∧ Below w.heap.size w w' := by
  have HN := Lib.hid hn; have HS := Lib.hid h; have HS' := Lib.hid h'; have HC := Lib.hid hc; have HCC := Lib.hid hC
  have ok := chkA_ok hc
  rw [hn, hS] at ok
  have OK' := Lib.hid ok
  have n1 := ok.n1
  have n12 := ok.n12
  have s0 := ok.pos
  have s12 := ok.s12
  have HSS := Lib.hid hS
  have zn : ((n : Int) != (n : Int)) = false := by simp
  have hmk := make_ints n (by omega)
  clear h h' hn hc hC hS ok
  go_enter Try.func23, Try.ntmps23
  go_wp2_with fail
  refine (aliasCheck l n _ _ _ HS.out HN.out).mono ?_; rintro e w' ⟨rfl, rfl⟩
  rw [HC.out]
  go_wp2_with fail
  clear zn
  go_loop [7, 27] (fun s i => ∃ k : Nat, k ≤ n ∧ i = .int .i64 k ∧ ∃ z : Int, s = .int .i64 z ∧ 0 ≤ z ∧ z ≤ k * 100 ∧ Hid (z = sumA (nth l) k)) (fun _ i => n - (intOf i).toNat)
  case atStart => exact ⟨0, by omega, rfl, 0, rfl, by omega, by omega, Lib.hid rfl⟩
  case round =>
    obtain ⟨k, hk, rfl, z, rfl, z1, z2, HZ⟩ := hrel
    by_cases hlt : k < n
    · obtain ⟨b', off, rfl, hb, hc⟩ := HS.out.int k (by rw [HN.out]; exact hlt)
      have hbd := OK'.out.bd k hlt
      have hst : sumA (nth l) (k + 1) = sumA (nth l) k + nth l k := rfl
      obtain ⟨x, hx⟩ : ∃ x, nth l k = x := ⟨_, rfl⟩
      rw [hx] at hc hbd hst
      have HZ2 : Hid (z + x = sumA (nth l) (k + 1)) := Lib.hid (by rw [hst, HZ.out])
      obtain ⟨x1, x2⟩ := hbd
      clear hx hst HZ hmk
      go_wp2_with fail
      go_round
      case rel => exact ⟨k + 1, by omega, by go_num, _, rfl, by omega, by omega, HZ2⟩
      case measure => simp only [intOf]; omega
    · obtain rfl : k = n := by omega
      obtain rfl : z = S := by rw [HZ.out, HSS.out]
      clear HZ z1 z2
      go_wp2_with fail
      have F1 := (Fr.start w).makeInts k (by omega)
      rw [gotL_zero C z k] at F1
      obtain ⟨L, hL⟩ : ∃ L, w.heap.size = L := ⟨_, rfl⟩
      rw [hL] at F1 ⊢
      clear hmk
      go_loopw [40] (fun i wr => ∃ j : Nat, j ≤ k ∧ i = .int .i64 j ∧ Fr w wr [intE L (gotL C z k j) k]) (fun i _ => k - (intOf i).toNat)
      case atStart => exact ⟨0, by omega, rfl, F1⟩
      case round =>
        obtain ⟨j, hj, rfl, hfr⟩ := hrel
        clear F1
        by_cases hlt : j < k
        · obtain ⟨b', off, rfl, hb, c1⟩ := (hfr.old HS'.out).int (j * 2) (by rw [HCC.out.len]; omega)
          obtain ⟨_, _, e, _, c2⟩ := (hfr.old HS'.out).int (j * 2 + 1) (by rw [HCC.out.len]; omega)
          cases e
          obtain ⟨⟨q1, q2⟩, q3, q4⟩ := HCC.out.cb j hlt
          obtain ⟨o, ho⟩ : ∃ o : Nat, oth C j = o := ⟨(oth C j).toNat, by omega⟩
          have hst := gotL_step C z k j o hlt ho (by omega)
          rw [show nth C (j * 2) = cut C j from rfl] at c1
          rw [show nth C (j * 2 + 1) = oth C j from rfl, ho, ← Nat.add_assoc] at c2
          rw [ho] at q4
          have g1 := got_bd HCC.out j j hj
          have g2 := got_bd HCC.out o j hj
          rw [← gotL_nth C z k j j hlt] at g1
          rw [← gotL_nth C z k j o (by omega)] at g2
          obtain ⟨x, hx⟩ : ∃ x, cut C j = x := ⟨_, rfl⟩
          rw [hx] at c1 q1 q2 hst
          have jb : (j : Int) * (2 * z) ≤ 12 * 2400 := Int.mul_le_mul (by omega) (by omega) (by omega) (by omega)
          obtain ⟨u, hu⟩ : ∃ u, nth (gotL C z k j) j = u := ⟨_, rfl⟩
          have hu2 : nth (addAt (gotL C z k j) j x) o = nth (gotL C z k j) o + if o = j then x else 0 := addAt_nth _ _ _ _ (by rw [gotL_len]; exact hlt)
          obtain ⟨v, hv⟩ : ∃ v, nth (addAt (gotL C z k j) j x) o = v := ⟨_, rfl⟩
          rw [hv] at hu2
          have v1 : 0 ≤ v := by rw [hu2]; split <;> omega
          have v2 : v ≤ 30000 := by rw [hu2]; split <;> omega
          rw [hu] at g1
          obtain ⟨g1, g3⟩ := g1
          have u2 : u ≤ 30000 := by omega
          have F2 := hfr.alloc (.cells #[.int .i64 x, .int .i64 (o : Int)] 41)
          obtain ⟨_, e, hBL, c3, f3⟩ := F2.openI j (by rw [gotL_len]; exact hlt)
          cases e
          rw [hu] at c3
          have F3 := F2.setInt j (u + x)
          have e1 : (gotL C z k j).set j (u + x) = addAt (gotL C z k j) j x := by unfold addAt; rw [hu]
          rw [e1] at F3
          have F3' := F3.drew
          obtain ⟨_, e, _, c4, f4⟩ := F3'.openI o (by rw [addAt_len, gotL_len]; omega)
          cases e
          rw [hv] at c4
          have F4 := F3'.setInt o (v + (z - x))
          have e2 : (addAt (gotL C z k j) j x).set o (v + (z - x)) = gotL C z k (j + 1) := by
            rw [← hst]
            show _ = (addAt (gotL C z k j) j x).set o (nth (addAt (gotL C z k j) j x) o + (z - x))
            rw [hv]
          rw [e2] at F4
          have HF4 := Lib.hid F4.drew
          have nL1 : L ≠ wr.heap.size := by
            obtain ⟨_, e, _, hlt2, _⟩ := hfr.open (by rw [ints_len, gotL_len]; omega)
            cases e; omega
          have nL2 : wr.heap.size ≠ L := fun h => nL1 h.symm
          have hd1 : (0 : Int) ≤ (j : Int) := by omega
          have hd2 : (j : Int) < (k : Int) := by omega
          have hd3 : (0 : Int) ≤ (o : Int) := by omega
          have hd4 : (o : Int) < (k : Int) := by omega
          have hd5 : decide (x < 0) = false := decide_eq_false (by omega)
          have hd6 : decide (z < x) = false := decide_eq_false (by omega)
          have hd7 : decide ((o : Int) < 0) = false := decide_eq_false (by omega)
          have hd8 : decide ((k : Int) ≤ (o : Int)) = false := decide_eq_false (by omega)
          have HST := Lib.hid hst
          clear F2 F3 F3' F4 hfr e1 e2 hu hv hu2 hst hx ho g2 jb
          go_wp2_with fail
          go_region
          go_wp2_with fail
          go_region
          go_wp2_with fail
          exact ⟨⟨j + 1, by omega, by simp, HF4.out⟩, by simp only [intOf]; omega⟩
        · obtain rfl : j = k := by omega
          have HF := Lib.hid hfr
          clear hfr
          go_wp2_with fail
          go_loop [88] (fun i => ∃ t : Nat, t ≤ j ∧ i = .int .i64 t ∧ Hid (∀ i, i < t → sumA (givesC C z i) j = nth l i * j)) (fun i => j - (intOf i).toNat)
          case atStart => exact ⟨0, by omega, rfl, Lib.hid (fun i hi => by omega)⟩
          case round =>
            obtain ⟨t, ht, rfl, HE⟩ := hrel
            by_cases htj : t < j
            · obtain ⟨b', off, rfl, hb, c1⟩ := (HF.out.old HS.out).int t (by rw [HN.out]; exact htj)
              obtain ⟨_, e, _, c2, -⟩ := HF.out.openI t (by rw [gotL_len]; exact htj)
              cases e
              have hbd := OK'.out.bd t htj
              have hval := gotL_nth C z j j t htj
              have gb := got_bd HCC.out t j (Nat.le_refl _)
              obtain ⟨u, hu⟩ : ∃ u, sumA (givesC C z t) j = u := ⟨_, rfl⟩
              rw [hval, hu] at c2
              obtain ⟨x, hx⟩ : ∃ x, nth l t = x := ⟨_, rfl⟩
              rw [hx] at c1 hbd
              obtain ⟨x1, x2⟩ := hbd
              have m1 : 0 ≤ x * (j : Int) := Int.mul_nonneg x1 (by omega)
              have m2 : x * (j : Int) ≤ 100 * 12 := Int.mul_le_mul x2 (by omega) (by omega) (by omega)
              have HU := Lib.hid hu; have HX := Lib.hid hx
              obtain ⟨P, hP⟩ : ∃ P, x * (j : Int) = P := ⟨_, rfl⟩
              rw [hP] at m1 m2
              have HP := Lib.hid hP
              have hd1 : (0 : Int) ≤ (t : Int) := by omega
              have hd2 : (t : Int) < (j : Int) := by omega
              clear hval gb hu hx
              by_cases hq : u = P
              · have HE2 : Hid (∀ i, i < t + 1 → sumA (givesC C z i) j = nth l i * j) := Lib.hid (fun i hi => by
                  by_cases e : i = t
                  · subst e; rw [HU.out, HX.out, HP.out, hq]
                  · exact HE.out i (by omega))
                subst hq
                have zz : (u != u) = false := by simp
                go_wp2_with fail
                go_round
                case rel => exact ⟨t + 1, by omega, by go_num, HE2⟩
                case measure => simp only [intOf]; omega
              · have zz : (u != P) = true := bne_iff_ne.2 hq
                have HNO : Hid (¬ ∀ i, i < j → sumA (givesC C z i) j = nth l i * j) := Lib.hid (fun hall => hq (by
                  have := hall t htj
                  rw [HU.out, HX.out, HP.out] at this; exact this))
                clear hq
                go_wp2_with fail
                go_ret2
                exact ⟨by rw [decide_eq_false HNO.out]; rfl, by rw [← hL]; exact HF.out.bel⟩
            · obtain rfl : t = j := by omega
              go_wp2_with fail
              go_ret2
              exact ⟨by rw [decide_eq_true HE.out]; rfl, by rw [← hL]; exact HF.out.bel⟩

set_option maxRecDepth 100000 in
set_option maxHeartbeats 1000000 in
theorem aliasDraw (C : List Int) (n c : Nat) (x S : Int) (b : Option Addr) (cb : Nat) (w : World) (h' : Sa w b (ints C)) (hC : ColOk C n S) (h12 : n ≤ 12) (hc : c < n) :
    Calls Try.prog 24 #[.slice b n cb, .int .i64 c, .int .i64 x] w fun e w' => e = .returned (.tuple #[.int .i64 (if x < cut C c then (c : Int) else oth C c), .int .i64 0]) ∧ w = w' := by
  obtain ⟨b', off, rfl, hb, c1⟩ := h'.int (c * 2) (by rw [hC.len]; omega)
  obtain ⟨_, _, e, _, c2⟩ := h'.int (c * 2 + 1) (by rw [hC.len]; omega)
  cases e
  rw [show nth C (c * 2) = cut C c from rfl] at c1
  rw [show nth C (c * 2 + 1) = oth C c from rfl, ← Nat.add_assoc] at c2
  obtain ⟨y, hy⟩ : ∃ y, cut C c = y := ⟨_, rfl⟩
  obtain ⟨o, ho⟩ : ∃ y, oth C c = y := ⟨_, rfl⟩
  rw [hy] at c1 ⊢
  rw [ho] at c2 ⊢
  have d1 : decide ((n : Int) < 1) = false := decide_eq_false (by omega)
  have d2 : decide ((12 : Int) < (n : Int)) = false := decide_eq_false (by omega)
  have d3 : decide ((c : Int) < 0) = false := decide_eq_false (by omega)
  have d4 : decide ((n : Int) ≤ (c : Int)) = false := decide_eq_false (by omega)
  have d5 : (0 : Int) ≤ (c : Int) := by omega
  have d6 : (c : Int) < (n : Int) := by omega
  clear h' hC hy ho
  by_cases hx : x < y
  · have d7 : decide (x < y) = true := decide_eq_true hx
    rw [if_pos hx]
    go_enter Try.func24, Try.ntmps24
    go_wp2_with fail
    go_ret2
    exact ⟨rfl, rfl⟩
  · have d7 : decide (x < y) = false := decide_eq_false hx
    rw [if_neg hx]
    go_enter Try.func24, Try.ntmps24
    go_wp2_with fail
    go_ret2
    exact ⟨rfl, rfl⟩

set_option maxRecDepth 100000 in
set_option maxHeartbeats 1000000 in
theorem tables_any (w : World) : Calls Try.prog 20 #[] w fun e w' => e = .returned (.bool true) ∧ Below w.heap.size w w' := by
  have HC := Lib.hid (show ColOk [2, 1, 4, 1] 2 4 from ⟨rfl, by decide⟩)
  have c0 : chkA [1, 3] = 0 := by decide
  have s0 : sumA (nth [1, 3]) 2 = 4 := by decide
  have t0 : ∀ i, i < 2 → sumA (givesC [2, 1, 4, 1] 4 i) 2 = nth [1, 3] i * ((2 : Nat) : Int) := fun i hi => by
    have : i = 0 ∨ i = 1 := by omega
    rcases this with rfl | rfl <;> decide
  have H1 := Lib.hid c0; have H2 := Lib.hid s0; have H3 := Lib.hid t0
  clear c0 s0 t0
  go_enter Try.func20, Try.ntmps20
  go_wp2_with fail
  have F1 := (Fr.start w).lit [1, 3] #[.int .i64 1, .int .i64 3] rfl 2 rfl (by omega) 3
  have F2 := F1.lit' [2, 1, 4, 1] #[.int .i64 2, .int .i64 1, .int .i64 4, .int .i64 1] rfl 4 rfl (by omega) 41 (w.heap.size + 1) (by simp)
  refine (aliasTest [1, 3] [2, 1, 4, 1] 2 4 _ _ _ _ _ (F2.get 1 rfl) rfl (F2.get 0 rfl) H1.out H2.out HC.out).mono ?_; rintro e w1 ⟨rfl, hb⟩
  rw [decide_eq_true H3.out]
  have F3 := F2.keep hb
  go_wp2_with fail
  go_ret
  exact ⟨rfl, F3.bel⟩
end Go.Proofs.Ytgblmbhbbjgdiaa
