/- breakPatterns of own slices of uint16 (printed by genu16b.py); xorshift and nextPowerOfTwo by the shelf. -/
import Derived.Test.YtdabgibmbmhmdaaU16S
import Derived.Test.YtdabgibmbmhmdaaShelf
import Derived.Shelf.SlSortCmp.Xorshift
import Derived.Deep.CutRange
import Derived.Laws.BitsAllLaws
import Derived.IntWalk
namespace Go.Proofs.Ytdabgibmbmhmdaa
open Go.RowKit Go.Shelf Go.Sort

theorem nextU (x : Nat) (X : Nat) (hX : X < 18446744073709551616) (w : World) (hc : w.cell? ⟨x, 0, none⟩ = some (.int .u64 X)) (hf : w.frozen? ⟨x, 0, none⟩ = false) :
    Calls Try.prog 135 #[.pointer (some ⟨x, 0, none⟩)] w fun e w' => e = .returned (.int .u64 (xorNextN X : Nat)) ∧ w' = (w.setCell ⟨x, 0, none⟩ (.int .u64 (xorNextN X : Nat))).drewN 3 :=
  AnyF.xorshift_Next (P := Try.prog) (ρ := Try.laysSlF14_f97_ren) { Try.laysSlF14_f97 with } x 0 X hX w hc hf
theorem powU (n : Nat) (hn : n < 4611686018427387904) (w : World) :
    Calls Try.prog 134 #[.int .i64 n] w fun e w' => e = .returned (.int .u64 ((1 <<< bitsLen n : Nat) : Int)) ∧ w' = w :=
  AnyF.nextPowerOfTwo (P := Try.prog) (ρ := Try.laysSlF14_f97_ren) { Try.laysSlF14_f97 with } n hn w
def eX (x X : Nat) : Ent := ⟨124, .slice (some ⟨x, 0, none⟩) 1 1, [.int .u64 (X : Int)]⟩
theorem Fr.getX {w0 w : World} {L : List Ent} {e0 : Ent} {x X : Nat} (h : Fr w0 w (e0 :: eX x X :: L)) : w.cell? ⟨x, 0, .none⟩ = some (.int .u64 (X : Int)) ∧ w.frozen? ⟨x, 0, .none⟩ = false := by
  obtain ⟨g, e, _, _, t1, t2⟩ := Fr.open (show Fr w0 w (⟨124, .slice (some ⟨x, 0, .none⟩) 1 1, [.int .u64 (X : Int)]⟩ :: e0 :: L) from h.swap) (by simp)
  cases e
  exact ⟨t1 0 (by simp), t2 0⟩
theorem Fr.setX {w0 w : World} {L : List Ent} {e0 : Ent} {x X : Nat} (h : Fr w0 w (e0 :: eX x X :: L)) (Y : Nat) : Fr w0 (w.setCell ⟨x, 0, .none⟩ (.int .u64 (Y : Int))) (e0 :: eX x Y :: L) := by
  have := Fr.set (show Fr w0 w (⟨124, .slice (some ⟨x, 0, .none⟩) 1 1, [.int .u64 (X : Int)]⟩ :: e0 :: L) from h.swap) 0 (.int .u64 (Y : Int))
  exact Fr.swap this
theorem pow_bd (H : Nat) (h : 1 ≤ H) : H < 1 <<< bitsLen H ∧ 1 <<< bitsLen H ≤ 2 * H := by
  rw [Nat.one_shiftLeft]
  refine ⟨(bitsLen_le_iff H _).1 (Nat.le_refl _), ?_⟩
  rcases Nat.eq_zero_or_pos (bitsLen H) with h0 | h0
  · have := (bitsLen_le_iff H 0).1 (by omega); omega
  · obtain ⟨k, hk⟩ : ∃ k, bitsLen H = k + 1 := ⟨bitsLen H - 1, by omega⟩
    have h1 : ¬ H < 2 ^ k := fun h => by have := (bitsLen_le_iff H k).2 h; omega
    rw [hk, Nat.pow_succ]; omega
set_option maxRecDepth 100000 in
set_option maxHeartbeats 16000000 in
theorem brkU {w0 : World} {L : List Ent} {g n cap : Nat} {d : List Int} (w : World) (a b : Nat) (F : Fr w0 w (eU g n cap d :: L)) (hab : a < b) (hb : b ≤ n) (hn : n ≤ 100000) :
    Calls Try.prog 103 #[.slice (some ⟨g, 0, none⟩) n cap, .int .i64 a, .int .i64 b] w fun e w' => e = .returned (.tuple #[]) ∧ SrtU w0 L g n cap d w' := by
  have HF := Lib.hid F
  have HP := Lib.hid (List.Perm.refl d)
  clear F
  obtain ⟨H, hH⟩ : ∃ H : Nat, (b : Int) - (a : Int) = H := ⟨b - a, by omega⟩
  by_cases h8 : 8 ≤ H
  · have d1 : decide ((8 : Int) ≤ (H : Int)) = true := decide_eq_true (by omega)
    obtain ⟨M, hM⟩ : ∃ M : Nat, (H : Int) / 4 = M := ⟨H / 4, by omega⟩
    obtain ⟨J, hJ⟩ : ∃ J : Nat, a + M * 2 = J := ⟨_, rfl⟩
    have i2 : (a : Int) + (M : Int) * 2 = (J : Int) := by omega
    obtain ⟨J0, hJ0⟩ : ∃ J0 : Nat, (J : Int) - 1 = J0 := ⟨J - 1, by omega⟩
    obtain ⟨p1, p2⟩ := pow_bd H (by omega)
    have hpw := Lib.hid (powU H (by omega))
    obtain ⟨P2, hP2⟩ : ∃ P2, 1 <<< bitsLen H = P2 := ⟨_, rfl⟩
    rw [hP2] at p1 p2 hpw
    clear hP2
    obtain ⟨Q, hQ⟩ : ∃ Q : Nat, (P2 : Int) - 1 = Q := ⟨P2 - 1, by omega⟩
    obtain ⟨S, hS⟩ : ∃ S, w.heap.size = S := ⟨_, rfl⟩
    have w64 : IntKind.u64.wrap (H : Int) = (H : Int) := by rw [IntKind.wrap_u64]; omega
    have F1 := HF.out.new 124 #[.int .u64 (H : Int)] [.int .u64 (H : Int)] rfl 1 rfl (by omega)
    rw [hS] at F1
    have HF1 := Lib.hid (show Fr w0 _ (eU g n cap d :: eX S H :: L) from F1.swap)
    clear F1 HF
    have FIN := Lib.hid (show ∀ (W : World) (D : List Int) (X : Nat), Fr w0 W (eU g n cap D :: eX S X :: L) → Fr w0 W (eU g n cap D :: L) from fun W D X h => h.sub (M := eU g n cap D :: L) (List.Sublist.cons_cons _ (List.sublist_cons_self _ _)))
    go_enter Try.func103, Try.ntmps103
    go_wp2_with fail
    refine (hpw.out _).mono ?_; rintro e w1 ⟨rfl, rfl⟩
    clear hpw
    go_wp2_with fail
    clear hS w64
    go_loopw [9] (fun s wr => ∃ (t X : Nat) (D : List Int), s = .int .i64 t ∧ a ≤ t ∧ t ≤ J + 2 ∧ X < 18446744073709551616 ∧ Hid (D.Perm d) ∧ Hid (Fr w0 wr (eU g n cap D :: eX S X :: L))) (fun s _ => (J + 3 - intOf s).toNat)
    case atStart => exact ⟨J0, H, d, rfl, by omega, by omega, by omega, HP, HF1⟩
    case round =>
      obtain ⟨t, X, D, rfl, k1, k2, hX, HPD, HFD⟩ := hrel
      clear HP HF1
      by_cases ht : t ≤ J + 1
      · have d2 : decide ((t : Int) ≤ (J : Int) + 1) = true := decide_eq_true (by omega)
        obtain ⟨cx, zx⟩ := HFD.out.getX
        have hnx := Lib.hid (nextU S X hX)
        have hY := xorNextN_lt X hX
        have HFY := Lib.hid ((HFD.out.setX (xorNextN X)).drewN 3)
        obtain ⟨Y, hYe⟩ : ∃ Y, xorNextN X = Y := ⟨_, rfl⟩
        rw [hYe] at hnx hY HFY
        have HYL := Lib.hid hY
        obtain ⟨R, hR⟩ : ∃ R : Nat, Y &&& Q = R := ⟨_, rfl⟩
        have hRQ : R ≤ Q := by rw [← hR]; exact Nat.and_le_right
        have hbits : bits .and .u64 (Y : Int) (Q : Int) = (R : Int) := by rw [Go.u64_and_nat Y Q hY (by omega), hR]
        have wq : IntKind.u64.wrap ((P2 : Int) - 1) = (Q : Int) := by rw [hQ, IntKind.wrap_u64]; omega
        have wr' : IntKind.i64.wrap (R : Int) = (R : Int) := IntWalk.i64_in _ (by omega)
        clear hYe hR hX hY
        go_wp2_with fail
        refine (hnx.out _ cx zx).mono ?_; rintro e w2 ⟨rfl, rfl⟩
        clear cx zx hnx
        go_upto_if 43 with (fail)
        go_cut [10] from 43 to 64 (fun s wc => ∃ o : Nat, s = .int .i64 o ∧ o < H ∧ Hid (Fr w0 wc (eU g n cap D :: eX S Y :: L)))
        case first =>
          by_cases hRH : H ≤ R
          · have d3 : decide (H ≤ R) = true := decide_eq_true hRH
            have d4 : decide ((H : Int) ≤ (R : Int)) = true := decide_eq_true (by omega)
            go_wp2_with fail
            go_meet
            exact ⟨R - H, by congr 1; omega, by omega, HFY⟩
          · have d3 : decide (H ≤ R) = false := decide_eq_false hRH
            have d4 : decide ((H : Int) ≤ (R : Int)) = false := decide_eq_false (by omega)
            go_wp2_with fail
            go_meet
            exact ⟨R, rfl, by omega, HFY⟩
        case rest =>
        obtain ⟨r, rfl, hr, HF5⟩ := hcut
        clear HFY HFD hbits wq wr'
        have v0 : IntKind.i64.wrap ((a : Int) + (r : Int)) = (a : Int) + (r : Int) := IntWalk.i64_in _ (by omega)
        have q0 : (0 : Int) ≤ (a : Int) + (r : Int) := by omega
        have q1 : (a : Int) + (r : Int) < (n : Int) := by omega
        have q2 : ((a : Int) + (r : Int)).toNat = a + r := by omega
        have q3 : (0 : Int) ≤ (t : Int) := by omega
        have q4 : (t : Int) < (n : Int) := by omega
        have hl := HF5.out.lenU
        obtain ⟨c1, z1⟩ := HF5.out.openU t (by omega)
        obtain ⟨c2, z2⟩ := HF5.out.openU (a + r) (by omega)
        obtain ⟨x, hx⟩ : ∃ x, nth D t = x := ⟨_, rfl⟩
        obtain ⟨y, hy⟩ : ∃ y, nth D (a + r) = y := ⟨_, rfl⟩
        have HF6 := Lib.hid ((HF5.out.swU t (a + r) x y hx hy).drew)
        have HP6 := Lib.hid ((swU_perm D t (a + r) (by omega) (by omega)).trans HPD.out)
        obtain ⟨c3, z3⟩ := (HF5.out.setU t y).openU (a + r) (by omega)
        obtain ⟨u, hu⟩ : ∃ u, nth (D.set t y) (a + r) = u := ⟨_, rfl⟩
        rw [hx] at c1
        rw [hy] at c2
        rw [hu] at c3
        clear hx hy hu
        go_wp2_with fail
        go_region
        clear c1 c2 c3 z1 z2 z3 hl
        generalize swU D t (a + r) = D6 at HF6 HP6
        clear v0 q0 q1 q2 q3 q4
        go_wp2_with fail
        go_roundw
        case rel => exact ⟨t + 1, Y, D6, by go_num, by omega, by omega, HYL.out, HP6, HF6⟩
        case measure => simp only [intOf]; omega
      · have d2 : decide ((t : Int) ≤ (J : Int) + 1) = false := decide_eq_false (by omega)
        go_wp2_with fail
        go_end0
        exact ⟨rfl, D, HPD.out, FIN.out _ _ _ HFD.out⟩
  · have d1 : decide ((8 : Int) ≤ (H : Int)) = false := decide_eq_false (by omega)
    go_enter Try.func103, Try.ntmps103
    go_wp2_with fail
    go_end0
    exact ⟨rfl, d, HP.out, HF.out⟩
end Go.Proofs.Ytdabgibmbmhmdaa
