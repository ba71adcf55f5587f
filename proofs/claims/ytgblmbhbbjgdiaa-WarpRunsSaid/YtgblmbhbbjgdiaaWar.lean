/- Contracts of package warp: Check, next, turn. -/
import Derived.Test.YtgblmbhbbjgdiaaWarM
import Derived.Test.YtgblmbhbbjgdiaaFB
import Derived.RegionTactic
namespace Go.Proofs.Ytgblmbhbbjgdiaa
open Go.RowKit

theorem Sa.thA {w : World} {a : Option Addr} {l : List Rn} (h : Sa w a (ths l)) (i : Nat) (hi : i < l.length) : ∃ b off, a = some ⟨b, off, none⟩ ∧ b < w.heap.size ∧
    w.cell? ⟨b, off + i * 4, none⟩ = some (.int .i64 (rnA l i).sh) ∧ w.cell? ⟨b, off + i * 4 + 1, none⟩ = some (.int .i64 (rnA l i).wa) ∧ w.cell? ⟨b, off + i * 4 + 2, none⟩ = some (.bool (rnA l i).th) ∧ w.cell? ⟨b, off + i * 4 + 3, none⟩ = some (.bool (rnA l i).ah) := by
  obtain ⟨b, off, e, hb, hc⟩ := h (by rw [ths_len]; omega)
  have key : ∀ j, j < 4 → w.cell? ⟨b, off + i * 4 + j, none⟩ = (thC (rnA l i))[j]? := fun j hj => by
    rw [Nat.add_assoc, hc (i * 4 + j) (by rw [ths_len]; omega), ths_get l i j hi hj]
  exact ⟨b, off, e, hb, key 0 (by omega), key 1 (by omega), key 2 (by omega), key 3 (by omega)⟩
theorem Sa.tuA {w : World} {a : Option Addr} {l : List Tu} (h : Sa w a (tus l)) (i : Nat) (hi : i < l.length) : ∃ b off, a = some ⟨b, off, none⟩ ∧ b < w.heap.size ∧
    w.cell? ⟨b, off + i * 3, none⟩ = some (.int .i64 (tuA l i).t) ∧ w.cell? ⟨b, off + i * 3 + 1, none⟩ = some (.int .i64 (tuA l i).who) ∧ w.cell? ⟨b, off + i * 3 + 2, none⟩ = some (.int .i64 (tuA l i).kind) := by
  obtain ⟨b, off, e, hb, hc⟩ := h (by rw [tus_len]; omega)
  have key : ∀ j, j < 3 → w.cell? ⟨b, off + i * 3 + j, none⟩ = (tuC (Proofs.Ytgblmbhbbjgdiaa.tuA l i))[j]? := fun j hj => by
    rw [Nat.add_assoc, hc (i * 3 + j) (by rw [tus_len]; omega), tus_get l i j hi hj]
  exact ⟨b, off, e, hb, key 0 (by omega), key 1 (by omega), key 2 (by omega)⟩
theorem Sa.rnA {w : World} {a : Option Addr} {l : List Rn} (h : Sa w a (rns l)) (i : Nat) (hi : i < l.length) : ∃ b off, a = some ⟨b, off, none⟩ ∧ b < w.heap.size ∧
    w.cell? ⟨b, off + i * 5, none⟩ = some (.int .i64 (rnA l i).sh) ∧ w.cell? ⟨b, off + i * 5 + 1, none⟩ = some (.int .i64 (rnA l i).wa) ∧ w.cell? ⟨b, off + i * 5 + 2, none⟩ = some (.bool (rnA l i).th) ∧ w.cell? ⟨b, off + i * 5 + 3, none⟩ = some (.bool (rnA l i).ah) ∧ w.cell? ⟨b, off + i * 5 + 4, none⟩ = some (.int .i64 (rnA l i).ps) := by
  obtain ⟨b, off, e, hb, hc⟩ := h (by rw [rns_len]; omega)
  have key : ∀ j, j < 5 → w.cell? ⟨b, off + i * 5 + j, none⟩ = (rnC (Proofs.Ytgblmbhbbjgdiaa.rnA l i))[j]? := fun j hj => by
    rw [Nat.add_assoc, hc (i * 5 + j) (by rw [rns_len]; omega), rns_get l i j hi hj]
  exact ⟨b, off, e, hb, key 0 (by omega), key 1 (by omega), key 2 (by omega), key 3 (by omega), key 4 (by omega)⟩
theorem chkR_bad (l : List Rn) (k : Nat) (hk : k < l.length) (h : chkR l k = 0) (hb : badR (rnA l k) = true) : chkR l l.length = 1 := by
  have e : chkR l (k + 1) = 1 := by rw [chkR, if_neg (by omega), if_pos hb]
  have := chkR_stays l (k + 1) (by omega) (l.length - (k + 1))
  rw [show k + 1 + (l.length - (k + 1)) = l.length by omega, e] at this
  exact this
theorem chkU_bad (n : Nat) (T : List Tu) (k : Nat) (hk : k < T.length) (h : chkU n T k = 0) (hb : badT n (tuA T k) = true) : chkU n T T.length = 1 := by
  have e : chkU n T (k + 1) = 1 := by rw [chkU, if_neg (by omega), if_pos hb]
  have := chkU_stays n T (k + 1) (by omega) (T.length - (k + 1))
  rw [show k + 1 + (T.length - (k + 1)) = T.length by omega, e] at this
  exact this
theorem chkU_form (n : Nat) (T : List Tu) (k : Nat) (hk : k < T.length) (h : chkU n T k = 0) (hb : badT n (tuA T k) = false) (hf : 0 < k ∧ (tuA T k).t < (tuA T (k - 1)).t) : chkU n T T.length = 3 := by
  have e : chkU n T (k + 1) = 3 := by rw [chkU, if_neg (by omega), if_neg (by simp [hb]), if_pos hf]
  have := chkU_stays n T (k + 1) (by omega) (T.length - (k + 1))
  rw [show k + 1 + (T.length - (k + 1)) = T.length by omega, e] at this
  exact this

set_option maxRecDepth 100000 in
set_option maxHeartbeats 4000000 in
theorem warChk (l : List Rn) (T : List Tu) (n m : Nat) (a b : Option Addr) (ca cb : Nat) (w : World) (h : Sa w a (ths l)) (h' : Sa w b (tus T)) (hn : l.length = n) (hm : T.length = m) :
    Calls Try.prog 47 #[.slice a n ca, .slice b m cb] w fun e w' => e = .returned (.int .i64 (chkW l T)) ∧ Below w.heap.size w w' := by
  have HN := Lib.hid hn; have HM := Lib.hid hm; have HS := Lib.hid h; have HS' := Lib.hid h'
  have e2 : chkW l T = if 8 < n ∨ 30 < m then 2 else if chkR l n ≠ 0 then chkR l n else chkU n T m := by unfold chkW; rw [hn, hm]
  clear h h' hn hm
  by_cases hl : 8 < n ∨ 30 < m
  · rw [if_pos hl] at e2
    have E2 := Lib.hid e2
    clear e2
    by_cases h8 : 8 < n
    · have d1 : decide ((8 : Int) < (n : Int)) = true := decide_eq_true (by omega)
      go_enter Try.func47, Try.ntmps47
      go_wp2_with fail
      go_ret
      exact ⟨by rw [E2.out]; rfl, Below.refl _ _⟩
    · have d1 : decide ((8 : Int) < (n : Int)) = false := decide_eq_false (by omega)
      have d2 : decide ((30 : Int) < (m : Int)) = true := decide_eq_true (by omega)
      go_enter Try.func47, Try.ntmps47
      go_wp2_with fail
      go_ret
      exact ⟨by rw [E2.out]; rfl, Below.refl _ _⟩
  · rw [if_neg hl] at e2
    have E2 := Lib.hid e2
    have n8 : n ≤ 8 := by omega
    have m30 : m ≤ 30 := by omega
    have d1 : decide ((8 : Int) < (n : Int)) = false := decide_eq_false (by omega)
    have d2 : decide ((30 : Int) < (m : Int)) = false := decide_eq_false (by omega)
    clear e2 hl
    go_enter Try.func47, Try.ntmps47
    go_wp2_with fail
    clear d1 d2
    go_loopw [19] (fun i wr => ∃ k : Nat, k ≤ n ∧ i = .int .i64 k ∧ Hid (chkR l k = 0) ∧ Hid (Fr w wr [])) (fun i _ => n - (intOf i).toNat)
    case atStart => exact ⟨0, by omega, rfl, Lib.hid rfl, Lib.hid (Fr.start w)⟩
    case round =>
      obtain ⟨k, hk, rfl, HC, HF⟩ := hrel
      by_cases hlt : k < n
      · obtain ⟨b', off, rfl, hb, c0, c1, c2, c3⟩ := (HF.out.old HS.out).thA k (by rw [HN.out]; exact hlt)
        have hbad1 : badR (rnA l k) = true → chkW l T = 1 := fun hb => by
          have := chkR_bad l k (by rw [HN.out]; exact hlt) HC.out hb
          rw [HN.out] at this
          rw [E2.out, this]; rfl
        have hbad0 : badR (rnA l k) = false → chkR l (k + 1) = 0 := fun hb => by
          rw [chkR, if_neg (by have := HC.out; omega), if_neg (by simp [hb])]
        obtain ⟨⟨sh, wa, th, ah, ps⟩, hr⟩ : ∃ r, rnA l k = r := ⟨_, rfl⟩
        rw [hr] at c0 c1 c2 c3 hbad1 hbad0
        simp only at c0 c1 c2 c3
        unfold badR at hbad1 hbad0
        simp only at hbad1 hbad0
        have e1 : (0 : Int) ≤ (k : Int) := by omega
        have e2 : (k : Int) < (n : Int) := by omega
        clear hr
        by_cases b1 : sh < 1
        · have f1 : decide (sh < 1) = true := decide_eq_true b1
          have HB := Lib.hid (hbad1 (by simp [f1]))
          clear hbad1 hbad0
          go_wp2_with fail
          go_ret
          exact ⟨by rw [HB.out]; rfl, (HF.out.alloc _).bel⟩
        have f1 : decide (sh < 1) = false := decide_eq_false b1
        by_cases b2 : 10 < sh
        · have f2 : decide (10 < sh) = true := decide_eq_true b2
          have HB := Lib.hid (hbad1 (by simp [f2]))
          clear hbad1 hbad0
          go_wp2_with fail
          go_ret
          exact ⟨by rw [HB.out]; rfl, (HF.out.alloc _).bel⟩
        have f2 : decide (10 < sh) = false := decide_eq_false b2
        by_cases b3 : wa < 0
        · have f3 : decide (wa < 0) = true := decide_eq_true b3
          have HB := Lib.hid (hbad1 (by simp [f3]))
          clear hbad1 hbad0
          go_wp2_with fail
          go_ret
          exact ⟨by rw [HB.out]; rfl, (HF.out.alloc _).bel⟩
        have f3 : decide (wa < 0) = false := decide_eq_false b3
        by_cases b4 : 100000 < wa
        · have f4 : decide (100000 < wa) = true := decide_eq_true b4
          have HB := Lib.hid (hbad1 (by simp [f4]))
          clear hbad1 hbad0
          go_wp2_with fail
          go_ret
          exact ⟨by rw [HB.out]; rfl, (HF.out.alloc _).bel⟩
        have f4 : decide (100000 < wa) = false := decide_eq_false b4
        have HB := Lib.hid (hbad0 (by simp [f1, f2, f3, f4]))
        clear hbad1 hbad0
        go_wp2_with fail
        exact ⟨⟨k + 1, by omega, by simp, HB, Lib.hid (HF.out.alloc _)⟩, by simp only [intOf]; omega⟩
      · obtain rfl : k = n := by omega
        have E3 : Hid (chkW l T = chkU k T m) := Lib.hid (by rw [E2.out, HC.out]; rfl)
        clear E2 HC
        go_wp2_with fail
        go_loopw [44] (fun i wr => ∃ j : Nat, j ≤ m ∧ i = .int .i64 j ∧ Hid (chkU k T j = 0) ∧ Hid (Fr w wr [])) (fun i _ => m - (intOf i).toNat)
        case atStart => exact ⟨0, by omega, rfl, Lib.hid rfl, HF⟩
        case round =>
          clear HF
          obtain ⟨j, hj, rfl, HC, HF⟩ := hrel
          by_cases hlt2 : j < m
          · obtain ⟨b', off, rfl, hb, c0, c1, c2⟩ := (HF.out.old HS'.out).tuA j (by rw [HM.out]; exact hlt2)
            have hbad1 : badT k (tuA T j) = true → chkW l T = 1 := fun hb => by
              have := chkU_bad k T j (by rw [HM.out]; exact hlt2) HC.out hb
              rw [HM.out] at this
              rw [E3.out, this]
            have hbad3 : badT k (tuA T j) = false → 0 < j ∧ (tuA T j).t < (tuA T (j - 1)).t → chkW l T = 3 := fun hb hf => by
              have := chkU_form k T j (by rw [HM.out]; exact hlt2) HC.out hb hf
              rw [HM.out] at this
              rw [E3.out, this]
            have hbad0 : badT k (tuA T j) = false → ¬ (0 < j ∧ (tuA T j).t < (tuA T (j - 1)).t) → chkU k T (j + 1) = 0 := fun hb hf => by
              rw [chkU, if_neg (by have := HC.out; omega), if_neg (by simp [hb]), if_neg hf]
            obtain ⟨⟨t, who, kind⟩, hr⟩ : ∃ r, tuA T j = r := ⟨_, rfl⟩
            rw [hr] at c0 c1 c2 hbad1 hbad0 hbad3
            simp only at c0 c1 c2
            unfold badT at hbad1 hbad0 hbad3
            simp only at hbad1 hbad0 hbad3
            have e1 : (0 : Int) ≤ (j : Int) := by omega
            have e2 : (j : Int) < (m : Int) := by omega
            clear hr
            by_cases b1 : t < 0
            · have f1 : decide (t < 0) = true := decide_eq_true b1
              have HB := Lib.hid (hbad1 (by simp [f1]))
              clear hbad1 hbad0 hbad3
              go_wp2_with fail
              go_ret
              exact ⟨by rw [HB.out]; rfl, (HF.out.alloc _).bel⟩
            have f1 : decide (t < 0) = false := decide_eq_false b1
            by_cases b2 : 200 < t
            · have f2 : decide (200 < t) = true := decide_eq_true b2
              have HB := Lib.hid (hbad1 (by simp [f2]))
              clear hbad1 hbad0 hbad3
              go_wp2_with fail
              go_ret
              exact ⟨by rw [HB.out]; rfl, (HF.out.alloc _).bel⟩
            have f2 : decide (200 < t) = false := decide_eq_false b2
            by_cases b3 : who < 0
            · have f3 : decide (who < 0) = true := decide_eq_true b3
              have HB := Lib.hid (hbad1 (by simp [f3]))
              clear hbad1 hbad0 hbad3
              go_wp2_with fail
              go_ret
              exact ⟨by rw [HB.out]; rfl, (HF.out.alloc _).bel⟩
            have f3 : decide (who < 0) = false := decide_eq_false b3
            by_cases b4 : (k : Int) ≤ who
            · have f4 : decide ((k : Int) ≤ who) = true := decide_eq_true b4
              have HB := Lib.hid (hbad1 (by simp [f4]))
              clear hbad1 hbad0 hbad3
              go_wp2_with fail
              go_ret
              exact ⟨by rw [HB.out]; rfl, (HF.out.alloc _).bel⟩
            have f4 : decide ((k : Int) ≤ who) = false := decide_eq_false b4
            by_cases b5 : kind < 1
            · have f5 : decide (kind < 1) = true := decide_eq_true b5
              have HB := Lib.hid (hbad1 (by simp [f5]))
              clear hbad1 hbad0 hbad3
              go_wp2_with fail
              go_ret
              exact ⟨by rw [HB.out]; rfl, (HF.out.alloc _).bel⟩
            have f5 : decide (kind < 1) = false := decide_eq_false b5
            by_cases b6 : 4 < kind
            · have f6 : decide (4 < kind) = true := decide_eq_true b6
              have HB := Lib.hid (hbad1 (by simp [f6]))
              clear hbad1 hbad0 hbad3
              go_wp2_with fail
              go_ret
              exact ⟨by rw [HB.out]; rfl, (HF.out.alloc _).bel⟩
            have f6 : decide (4 < kind) = false := decide_eq_false b6
            replace hbad0 := hbad0 (by simp [f1, f2, f3, f4, f5, f6])
            replace hbad3 := hbad3 (by simp [f1, f2, f3, f4, f5, f6])
            clear hbad1
            by_cases hj0 : j = 0
            · have HB := Lib.hid (hbad0 (by omega))
              have g1 : decide ((0 : Int) < (j : Int)) = false := decide_eq_false (by omega)
              have g2 : decide (0 < j) = false := decide_eq_false (by omega)
              clear hbad0 hbad3 hj0
              go_wp2_with fail
              go_quiet (fail)
              have HF2 := Lib.hid ((HF.out.alloc (.cells #[.int .i64 t, .int .i64 who, .int .i64 kind] 57)).drewN nq)
              go_wp2_with fail
              exact ⟨⟨j + 1, by omega, by simp, HB, HF2⟩, by simp only [intOf]; omega⟩
            · obtain ⟨i, rfl⟩ : ∃ i, j = i + 1 := ⟨j - 1, by omega⟩
              have g1 : decide ((0 : Int) < (((i + 1 : Nat) : Nat) : Int)) = true := decide_eq_true (by omega)
              have g1' : decide ((0 : Int) < (i : Int) + 1) = true := decide_eq_true (by omega)
              obtain ⟨_, _, e, _, p0, _, _⟩ := (HF.out.old HS'.out).tuA i (by rw [HM.out]; omega)
              cases e
              rw [show i + 1 - 1 = i from rfl] at hbad0 hbad3
              obtain ⟨t', ht'⟩ : ∃ t', (tuA T i).t = t' := ⟨_, rfl⟩
              rw [ht'] at hbad0 hbad3 p0
              have g2 : (((i + 1 : Nat) : Int)) - 1 = (i : Int) := by omega
              have g3 : (0 : Int) ≤ (i : Int) := by omega
              have g4 : (i : Int) < (m : Int) := by omega
              clear ht'
              by_cases hf : t < t'
              · have HB := Lib.hid (hbad3 ⟨by omega, hf⟩)
                have g5 : decide (t < t') = true := decide_eq_true hf
                clear hbad0 hbad3
                go_wp2_with fail
                go_quiet (fail)
                have HF2 := Lib.hid ((HF.out.alloc (.cells #[.int .i64 t, .int .i64 who, .int .i64 kind] 57)).drewN nq)
                go_wp2_with fail
                go_ret
                exact ⟨by rw [HB.out]; rfl, HF2.out.bel⟩
              · have HB := Lib.hid (hbad0 (by omega))
                have g5 : decide (t < t') = false := decide_eq_false hf
                clear hbad0 hbad3
                go_wp2_with fail
                go_quiet (fail)
                have HF2 := Lib.hid ((HF.out.alloc (.cells #[.int .i64 t, .int .i64 who, .int .i64 kind] 57)).drewN nq)
                go_wp2_with fail
                exact ⟨⟨i + 1 + 1, by omega, by simp, HB, HF2⟩, by simp only [intOf]; omega⟩
          · obtain rfl : j = m := by omega
            go_wp2_with fail
            go_ret
            exact ⟨by rw [E3.out, HC.out]; rfl, HF.out.bel⟩
end Go.Proofs.Ytgblmbhbbjgdiaa
