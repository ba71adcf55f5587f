/- slices.Sort of twelve ints or fewer; slices.Compact where nothing stands twice. -/
import Derived.Test.YtgblmbhbbjgdiaaSlFn
namespace Go.Proofs.Ytgblmbhbbjgdiaa
open Go.RowKit

theorem isNaN_int (x : Int) (w : World) : Calls Try.prog 77 #[.int .i64 x] w fun e w' => e = .returned (.bool false) ∧ w = w' := by
  go_enter Try.func77, Try.ntmps77
  have hx : (x == x) = true := beq_self_eq_true _
  go_wp2_with fail
  go_ret
  exact ⟨by simp, rfl⟩
theorem less_any (x y : Int) (b : Bool) (hb : decide (x < y) = b) (w : World) : Calls Try.prog 67 #[.int .i64 x, .int .i64 y] w fun e w' => e = .returned (.bool b) ∧ w = w' := by
  go_enter Try.func67, Try.ntmps67
  go_wp2_with (go_at_call 77; refine (isNaN_int _ _).mono ?_; rintro e w' ⟨rfl, rfl⟩)
  go_ret
  exact ⟨by simp, rfl⟩
def swL (l : List Int) (i k : Nat) : List Int := (l.set i (nth l k)).set k (nth l i)
theorem swL_len (l : List Int) (i k : Nat) : (swL l i k).length = l.length := by simp [swL]
theorem swL_perm (l : List Int) (i k : Nat) (hi : i < l.length) (hk : k < l.length) : l.Perm (swL l i k) := by
  have := List.set_set_perm hi hk
  unfold swL nth
  rw [List.getD_eq_getElem?_getD, List.getD_eq_getElem?_getD, List.getElem?_eq_getElem hi, List.getElem?_eq_getElem hk]
  exact this.symm
def insJ : Nat → List Int → List Int
  | 0, l => l
  | j + 1, l => if nth l (j + 1) < nth l j then insJ j (swL l (j + 1) j) else l
def insS (l : List Int) : Nat → List Int
  | 0 => l
  | i + 1 => insJ i (insS l i)
theorem insJ_perm : ∀ (j : Nat) (l : List Int), j < l.length → l.Perm (insJ j l)
  | 0, _, _ => .refl _
  | j + 1, l, h => by
    rw [insJ]; split
    · exact (swL_perm l (j + 1) j h (by omega)).trans (insJ_perm j _ (by rw [swL_len]; omega))
    · exact .refl _
theorem insS_perm (l : List Int) : ∀ i, i ≤ l.length → l.Perm (insS l i)
  | 0, _ => .refl _
  | i + 1, h => by
    have ih := insS_perm l i (by omega)
    exact ih.trans (insJ_perm i _ (by rw [← ih.length_eq]; omega))

set_option maxRecDepth 100000 in
set_option maxHeartbeats 4000000 in
theorem insSort {w0 : World} {L : List Ent} (l : List Int) (n cap g : Nat) (w : World) (hF : Fr w0 w (⟨3, .slice (some ⟨g, 0, none⟩) n cap, ints l⟩ :: L)) (h12 : n ≤ 12) (h1 : 1 ≤ n) :
    Calls Try.prog 61 #[.slice (some ⟨g, 0, none⟩) n cap, .int .i64 0, .int .i64 n] w fun e w' => e = .returned (.tuple #[]) ∧ Fr w0 w' (⟨3, .slice (some ⟨g, 0, none⟩) n cap, ints (insS l n)⟩ :: L) := by
  have HL : Hid (∀ i, i ≤ n → (insS l i).length = n) := Lib.hid (fun i hi => by
    have := hF.len; rw [ints_len] at this
    rw [← (insS_perm l i (by omega)).length_eq]; omega)
  have HF := Lib.hid hF
  have H1 : Hid (insS l 1 = l) := Lib.hid rfl
  clear hF
  go_enter Try.func61, Try.ntmps61
  go_wp2_with fail
  go_loopw [6] (fun i wr => ∃ k : Nat, i = .int .i64 k ∧ 1 ≤ k ∧ k ≤ n ∧ Fr w0 wr (⟨3, .slice (some ⟨g, 0, none⟩) n cap, ints (insS l k)⟩ :: L)) (fun i _ => n - (intOf i).toNat)
  case atStart => exact ⟨1, rfl, by omega, h1, by rw [H1.out]; exact HF.out⟩
  case round =>
    obtain ⟨k, rfl, k1, kn, hfr⟩ := hrel
    by_cases hlt : k < n
    · have HST : Hid (insS l (k + 1) = insJ k (insS l k)) := Lib.hid rfl
      have HLK : Hid ((insS l k).length = n) := Lib.hid (HL.out k kn)
      obtain ⟨S, hS⟩ : ∃ S, insS l k = S := ⟨_, rfl⟩
      rw [hS] at hfr HST HLK
      clear hS
      go_wp2_with fail
      go_loopw [7] (fun i wr => ∃ (j : Nat) (q : List Int), i = .int .i64 j ∧ j ≤ k ∧ Hid (q.length = n ∧ insJ k S = insJ j q) ∧ Fr w0 wr (⟨3, .slice (some ⟨g, 0, none⟩) n cap, ints q⟩ :: L)) (fun i _ => (intOf i).toNat)
      case atStart => exact ⟨k, S, rfl, by omega, Lib.hid ⟨HLK.out, rfl⟩, hfr⟩
      case round =>
        obtain ⟨j, q, rfl, hj, HQ, hfr⟩ := hrel
        cases j with
        | zero =>
          have HE : Hid (insS l (k + 1) = q) := Lib.hid (by rw [HST.out, HQ.out.2, insJ])
          go_wp2_with fail
          go_quiet (fail)
          go_wp2_with fail
          exact ⟨⟨k + 1, by simp, by omega, by omega, by rw [HE.out]; exact hfr.drewN _⟩, by simp only [intOf]; omega⟩
        | succ j =>
          obtain ⟨_, e, _, c1, f1⟩ := hfr.openI (j + 1) (by rw [HQ.out.1]; omega)
          cases e
          obtain ⟨_, e, _, c2, f2⟩ := hfr.openI j (by rw [HQ.out.1]; omega)
          cases e
          have hst : insJ (j + 1) q = if nth q (j + 1) < nth q j then insJ j (swL q (j + 1) j) else q := rfl
          have hsw : (q.set (j + 1) (nth q j)).set j (nth q (j + 1)) = swL q (j + 1) j := rfl
          obtain ⟨x, hx⟩ : ∃ x, nth q (j + 1) = x := ⟨_, rfl⟩
          obtain ⟨y, hy⟩ : ∃ y, nth q j = y := ⟨_, rfl⟩
          rw [hx] at c1 hst hsw
          rw [hy] at c2 hst hsw
          have d1 : (0 : Int) ≤ (j : Int) := by omega
          have d2 : (j : Int) < (n : Int) := by omega
          have d3 : (0 : Int) ≤ (j : Int) + 1 := by omega
          have d4 : (j : Int) + 1 < (n : Int) := by omega
          have e1 : (j : Int) + 1 - 1 = (j : Int) := by omega
          have d5 : decide ((0 : Int) < (j : Int) + 1) = true := decide_eq_true (by omega)
          obtain ⟨b, hb⟩ : ∃ b, decide (x < y) = b := ⟨_, rfl⟩
          have HB := Lib.hid hb
          by_cases hxy : x < y
          · rw [if_pos hxy] at hst
            obtain rfl : b = true := by rw [← hb, decide_eq_true hxy]
            have HQ2 : Hid ((swL q (j + 1) j).length = n ∧ insJ k S = insJ j (swL q (j + 1) j)) := Lib.hid ⟨by rw [swL_len, HQ.out.1], by rw [HQ.out.2, hst]⟩
            have HSW := Lib.hid hsw; have HX := Lib.hid hx; have HY := Lib.hid hy
            clear hst hsw hx hy hb hxy
            go_wp2_with fail
            go_quiet ((go_at_call 67; exact Calls.quiet_of_same ((less_any _ _ _ HB.out _).mono fun _ _ ⟨a, b⟩ => ⟨a, b.symm⟩)))
            go_wp2_with fail
            obtain ⟨_, e, _, c5, f5⟩ := (hfr.drewN nq).openI (j + 1) (by rw [HQ.out.1]; omega)
            cases e
            obtain ⟨_, e, _, c6, f6⟩ := (hfr.drewN nq).openI j (by rw [HQ.out.1]; omega)
            cases e
            rw [HX.out] at c5
            rw [HY.out] at c6
            have F5 := (hfr.drewN nq).setInt (j + 1) y
            obtain ⟨_, e, _, c3, f3⟩ := F5.openI j (by rw [List.length_set, HQ.out.1]; omega)
            cases e
            obtain ⟨v, hv⟩ : ∃ v, nth (q.set (j + 1) y) j = v := ⟨_, rfl⟩
            rw [hv] at c3
            have F6 := (F5.setInt j x).drew
            rw [HSW.out] at F6
            have HF6 := Lib.hid F6
            clear F5 F6 hv
            go_region
            go_wp2_with fail
            exact ⟨⟨j, _, rfl, by omega, HQ2, HF6.out⟩, by simp only [intOf]; omega⟩
          · rw [if_neg hxy] at hst
            obtain rfl : b = false := by rw [← hb, decide_eq_false hxy]
            have HE : Hid (insS l (k + 1) = q) := Lib.hid (by rw [HST.out, HQ.out.2, hst])
            clear hst hsw hx hy hb hxy
            go_wp2_with fail
            go_quiet ((go_at_call 67; exact Calls.quiet_of_same ((less_any _ _ _ HB.out _).mono fun _ _ ⟨a, b⟩ => ⟨a, b.symm⟩)))
            go_wp2_with fail
            exact ⟨⟨k + 1, by simp, by omega, by omega, by rw [HE.out]; exact hfr.drewN _⟩, by simp only [intOf]; omega⟩
    · obtain rfl : k = n := by omega
      go_wp2_with fail
      go_end0
      exact ⟨rfl, hfr⟩

set_option maxRecDepth 100000 in
set_option maxHeartbeats 1000000 in
theorem pdqSmall {w0 : World} {L : List Ent} (l : List Int) (n cap g : Nat) (x : Int) (w : World) (hF : Fr w0 w (⟨3, .slice (some ⟨g, 0, none⟩) n cap, ints l⟩ :: L)) (h12 : n ≤ 12) (h1 : 1 ≤ n) :
    Calls Try.prog 57 #[.slice (some ⟨g, 0, none⟩) n cap, .int .i64 0, .int .i64 n, .int .i64 x] w fun e w' => e = .returned (.tuple #[]) ∧ Fr w0 w' (⟨3, .slice (some ⟨g, 0, none⟩) n cap, ints (insS l n)⟩ :: L) := by
  have HF := Lib.hid hF
  clear hF
  have d1 : decide ((n : Int) ≤ 12) = true := decide_eq_true (by omega)
  go_enter Try.func57, Try.ntmps57
  go_wp2_with fail
  go_loop [1, 2, 3] (fun a b l => a = .int .i64 0 ∧ b = .int .i64 n) (fun _ _ _ => 0)
  case atStart => exact ⟨rfl, rfl⟩
  case round =>
    obtain ⟨rfl, rfl⟩ := hrel
    go_wp2_with fail
    refine (insSort l n cap g _ HF.out h12 h1).mono ?_; rintro e w' ⟨rfl, hf⟩
    have HF2 := Lib.hid hf
    clear hf
    go_wp2_with fail
    refine bodyPost_ret (results_none rfl _ _ _) rfl ?_
    exact ⟨rfl, HF2.out⟩

set_option maxRecDepth 100000 in
theorem len64_12 (n : Nat) (h : n ≤ 12) (w : World) : Calls Try.prog 71 #[.int .u64 n] w fun e w' => (∃ L, e = .returned (.int .i64 L)) ∧ w = w' := by
  have : n = 0 ∨ n = 1 ∨ n = 2 ∨ n = 3 ∨ n = 4 ∨ n = 5 ∨ n = 6 ∨ n = 7 ∨ n = 8 ∨ n = 9 ∨ n = 10 ∨ n = 11 ∨ n = 12 := by omega
  rcases this with rfl | rfl | rfl | rfl | rfl | rfl | rfl | rfl | rfl | rfl | rfl | rfl | rfl
  all_goals
    go_enter Try.func71, Try.ntmps71
    go_wp2_with fail
    go_ret
    exact ⟨⟨_, rfl⟩, rfl⟩
set_option maxRecDepth 100000 in
theorem len_12 (n : Nat) (h : n ≤ 12) (w : World) : Calls Try.prog 58 #[.int .u64 n] w fun e w' => (∃ L, e = .returned (.int .i64 L)) ∧ w = w' := by
  go_enter Try.func58, Try.ntmps58
  go_wp2_with fail
  refine (len64_12 n h _).mono ?_; rintro e w' ⟨⟨L, rfl⟩, rfl⟩
  go_wp2_with fail
  go_ret
  exact ⟨⟨_, rfl⟩, rfl⟩
set_option maxRecDepth 100000 in
theorem slSort {w0 : World} {L : List Ent} (l : List Int) (n cap g : Nat) (w : World) (hF : Fr w0 w (⟨3, .slice (some ⟨g, 0, none⟩) n cap, ints l⟩ :: L)) (h12 : n ≤ 12) (h1 : 1 ≤ n) :
    Calls Try.prog 40 #[.slice (some ⟨g, 0, none⟩) n cap] w fun e w' => e = .returned (.tuple #[]) ∧ Fr w0 w' (⟨3, .slice (some ⟨g, 0, none⟩) n cap, ints (insS l n)⟩ :: L) := by
  have HF := Lib.hid hF
  clear hF
  go_enter Try.func40, Try.ntmps40
  go_wp2_with fail
  refine (len_12 n h12 _).mono ?_; rintro e w' ⟨⟨x, rfl⟩, rfl⟩
  go_wp2_with fail
  refine (pdqSmall l n cap g x _ HF.out h12 h1).mono ?_; rintro e w' ⟨rfl, hf⟩
  have HF2 := Lib.hid hf
  clear hf
  go_wp2_with fail
  go_end0
  exact ⟨rfl, HF2.out⟩

set_option maxRecDepth 100000 in
set_option maxHeartbeats 1000000 in
theorem slCompact (l : List Int) (n : Nat) (a : Option Addr) (cap : Nat) (w : World) (h : Sa w a (ints l)) (hn : l.length = n) (hl : n ≤ 1000000) (hd : ∀ i, i + 1 < n → nth l i ≠ nth l (i + 1)) :
    Calls Try.prog 41 #[.slice a n cap] w fun e w' => e = .returned (.slice a n cap) ∧ Fr w w' [] := by
  have HN := Lib.hid hn; have HS := Lib.hid h; have HD := Lib.hid hd
  clear hn h hd
  by_cases h2 : n < 2
  · have d1 : decide ((n : Int) < 2) = true := decide_eq_true (by omega)
    go_enter Try.func41, Try.ntmps41
    go_wp2_with fail
    go_ret
    exact ⟨rfl, Fr.start w⟩
  · have d1 : decide ((n : Int) < 2) = false := decide_eq_false (by omega)
    go_enter Try.func41, Try.ntmps41
    go_wp2_with fail
    clear d1
    go_loopw [3] (fun i wr => ∃ k : Nat, i = .int .i64 ((k : Int) + 1) ∧ k + 1 ≤ n ∧ Fr w wr []) (fun i _ => n - (intOf i).toNat)
    case atStart => exact ⟨0, rfl, by omega, Fr.start w⟩
    case round =>
      obtain ⟨k, rfl, hk, hfr⟩ := hrel
      by_cases hlt : k + 1 < n
      · obtain ⟨b1, o1, rfl, hb1, c1⟩ := (hfr.old HS.out).int (k + 1) (by rw [HN.out]; exact hlt)
        obtain ⟨_, _, e, _, c2⟩ := (hfr.old HS.out).int k (by rw [HN.out]; omega)
        cases e
        have hne := HD.out k hlt
        obtain ⟨x, hx⟩ : ∃ x, nth l (k + 1) = x := ⟨_, rfl⟩
        obtain ⟨y, hy⟩ : ∃ y, nth l k = y := ⟨_, rfl⟩
        rw [hx] at hne c1
        rw [hy] at hne c2
        have z : (x == y) = false := beq_eq_false_iff_ne.2 (fun h => hne h.symm)
        have d1 : (0 : Int) ≤ (k : Int) := by omega
        have d2 : (k : Int) < (n : Int) := by omega
        have d3 : (0 : Int) ≤ (k : Int) + 1 := by omega
        have d4 : (k : Int) + 1 < (n : Int) := by omega
        have e1 : (k : Int) + 1 - 1 = (k : Int) := by omega
        clear hx hy hne
        go_wp2_with fail
        go_quiet (fail)
        go_wp2_with fail
        exact ⟨⟨k + 1, by simp, by omega, hfr.drewN _⟩, by simp only [intOf]; omega⟩
      · have d1 : decide ((k : Int) + 1 < (n : Int)) = false := decide_eq_false (by omega)
        go_wp2_with fail
        go_ret
        exact ⟨rfl, hfr⟩
end Go.Proofs.Ytgblmbhbbjgdiaa
