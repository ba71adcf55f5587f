/- choosePivot of own slices of uint16. -/
import Derived.Test.YtdabgibmbmhmdaaU16S
import Derived.Deep.CutRange
import Derived.IntWalk
namespace Go.Proofs.Ytdabgibmbmhmdaa
open Go.RowKit

/-- the count of changes, a block of one cell -/
def eS (s : Nat) (c : Nat) : Ent := ⟨3, .slice (some ⟨s, 0, none⟩) 1 1, ints [(c : Int)]⟩
theorem Fr.getS {w0 w : World} {L : List Ent} {e0 : Ent} {s c : Nat} (h : Fr w0 w (e0 :: eS s c :: L)) : w.cell? ⟨s, 0, .none⟩ = some (.int .i64 (c : Int)) ∧ w.frozen? ⟨s, 0, .none⟩ = false := by
  obtain ⟨g, e, _, _, t1, t2⟩ := Fr.open (show Fr w0 w (⟨3, .slice (some ⟨s, 0, .none⟩) 1 1, ints [(c : Int)]⟩ :: e0 :: L) from h.swap) (by simp [ints])
  cases e
  exact ⟨t1 0 (by simp [ints]), t2 0⟩
theorem Fr.setS {w0 w : World} {L : List Ent} {e0 : Ent} {s c : Nat} (h : Fr w0 w (e0 :: eS s c :: L)) : Fr w0 (w.setCell ⟨s, 0, .none⟩ (.int .i64 ((c : Int) + 1))) (e0 :: eS s (c + 1) :: L) := by
  have := Fr.setInt (show Fr w0 w (⟨3, .slice (some ⟨s, 0, .none⟩) 1 1, ints [(c : Int)]⟩ :: e0 :: L) from h.swap) 0 ((c : Int) + 1)
  exact Fr.swap this
set_option maxRecDepth 100000 in
set_option maxHeartbeats 4000000 in
theorem ord2U {w0 : World} {L : List Ent} {g n cap : Nat} {d : List Int} (w : World) (a b s c : Nat) (F : Fr w0 w (eU g n cap d :: eS s c :: L)) (ha : a < n) (hb : b < n) (hc : c ≤ 1000) :
    Calls Try.prog 153 #[.slice (some ⟨g, 0, none⟩) n cap, .int .i64 a, .int .i64 b, .pointer (some ⟨s, 0, none⟩)] w fun e w' => ∃ (a' b' c' : Nat), e = .returned (.tuple #[.int .i64 a', .int .i64 b']) ∧ ((a' = a ∧ b' = b) ∨ (a' = b ∧ b' = a)) ∧ c' ≤ c + 1 ∧ Fr w0 w' (eU g n cap d :: eS s c' :: L) := by
  have HF := Lib.hid F
  obtain ⟨c1, z1⟩ := F.openU a ha
  obtain ⟨c2, z2⟩ := F.openU b hb
  obtain ⟨c3, z3⟩ := F.getS
  obtain ⟨x, hx⟩ : ∃ x, nth d a = x := ⟨_, rfl⟩
  obtain ⟨y, hy⟩ : ∃ y, nth d b = y := ⟨_, rfl⟩
  rw [hx] at c1
  rw [hy] at c2
  clear F hx hy z1 z2
  have r0 : (0 : Int) ≤ (a : Int) := by omega
  have s0 : (a : Int) < (n : Int) := by omega
  have r1 : (0 : Int) ≤ (b : Int) := by omega
  have s1 : (b : Int) < (n : Int) := by omega
  obtain ⟨k, hk⟩ : ∃ k, decide (y < x) = k := ⟨_, rfl⟩
  go_enter Try.func153, Try.ntmps153
  go_wp2_with fail
  go_quiet ((go_at_call 107; exact Calls.quiet_of_same ((lessU _ _ _).mono fun _ _ ⟨a, b⟩ => ⟨a, b.symm⟩)))
  try rw [hk]
  cases k with
  | true =>
    go_wp2_with fail
    go_ret2
    exact ⟨b, a, c + 1, rfl, .inr ⟨rfl, rfl⟩, by omega, (HF.out.drewN _).setS⟩
  | false =>
    go_wp2_with fail
    go_ret2
    exact ⟨a, b, c, rfl, .inl ⟨rfl, rfl⟩, by omega, HF.out.drewN _⟩
set_option maxRecDepth 100000 in
set_option maxHeartbeats 4000000 in
theorem medU {w0 : World} {L : List Ent} {g n cap : Nat} {d : List Int} (w : World) (lo hi a b k s c : Nat) (F : Fr w0 w (eU g n cap d :: eS s c :: L)) (ha : lo ≤ a ∧ a < hi) (hb : lo ≤ b ∧ b < hi) (hk : lo ≤ k ∧ k < hi) (hh : hi ≤ n) (hc : c ≤ 100) :
    Calls Try.prog 137 #[.slice (some ⟨g, 0, none⟩) n cap, .int .i64 a, .int .i64 b, .int .i64 k, .pointer (some ⟨s, 0, none⟩)] w fun e w' => ∃ (m c' : Nat), e = .returned (.int .i64 m) ∧ lo ≤ m ∧ m < hi ∧ c' ≤ c + 3 ∧ Fr w0 w' (eU g n cap d :: eS s c' :: L) := by
  have HF := Lib.hid F
  clear F
  go_enter Try.func137, Try.ntmps137
  go_wp2_with fail
  refine (ord2U _ a b s c HF.out (by omega) (by omega) (by omega)).mono ?_; rintro e w1 ⟨a1, b1, k1, rfl, hab, hk1, hf1⟩
  have HF1 := Lib.hid hf1
  have ha1 : lo ≤ a1 ∧ a1 < hi := by omega
  have hb1 : lo ≤ b1 ∧ b1 < hi := by omega
  clear hf1 HF hab
  go_wp2_with fail
  refine (ord2U _ b1 k s k1 HF1.out (by omega) (by omega) (by omega)).mono ?_; rintro e w2 ⟨b2, k2, c2, rfl, hbk, hk2, hf2⟩
  have HF2 := Lib.hid hf2
  have hb2 : lo ≤ b2 ∧ b2 < hi := by omega
  have hk3 : lo ≤ k2 ∧ k2 < hi := by omega
  clear hf2 HF1 hbk
  go_wp2_with fail
  refine (ord2U _ a1 b2 s c2 HF2.out (by omega) (by omega) (by omega)).mono ?_; rintro e w3 ⟨a3, b3, c3, rfl, hab, hk4, hf3⟩
  have HF3 := Lib.hid hf3
  have hb3 : lo ≤ b3 ∧ b3 < hi := by omega
  clear hf3 HF2 hab
  go_wp2_with fail
  go_ret
  exact ⟨b3, c3, rfl, hb3.1, hb3.2, by omega, HF3.out⟩
set_option maxRecDepth 100000 in
set_option maxHeartbeats 4000000 in
theorem adjU {w0 : World} {L : List Ent} {g n cap : Nat} {d : List Int} (w : World) (lo hi t s c : Nat) (F : Fr w0 w (eU g n cap d :: eS s c :: L)) (ha : lo ≤ t) (hb : t + 2 < hi) (hh : hi ≤ n) (hn : n ≤ 100000) (hc : c ≤ 100) :
    Calls Try.prog 136 #[.slice (some ⟨g, 0, none⟩) n cap, .int .i64 ((t + 1 : Nat) : Int), .pointer (some ⟨s, 0, none⟩)] w fun e w' => ∃ (m c' : Nat), e = .returned (.int .i64 m) ∧ lo ≤ m ∧ m < hi ∧ c' ≤ c + 3 ∧ Fr w0 w' (eU g n cap d :: eS s c' :: L) := by
  have HF := Lib.hid F
  clear F
  have hM := Lib.hid (medU w lo hi t (t + 1) (t + 2) s c HF.out (by omega) (by omega) (by omega) hh hc)
  obtain ⟨u, hu⟩ : ∃ u : Nat, t + 1 = u := ⟨_, rfl⟩
  obtain ⟨v, hv⟩ : ∃ v : Nat, t + 2 = v := ⟨_, rfl⟩
  rw [hu, hv] at hM
  rw [hu]
  have e1 : (u : Int) - 1 = (t : Int) := by omega
  have e2 : (u : Int) + 1 = (v : Int) := by omega
  clear hu hv
  go_enter Try.func136, Try.ntmps136
  go_wp2_with fail
  refine hM.out.mono ?_; rintro e w1 ⟨m, c', rfl, h1, h2, h3, hf⟩
  have HF1 := Lib.hid hf
  clear hf hM HF
  go_wp2_with fail
  go_ret
  exact ⟨m, c', rfl, h1, h2, h3, HF1.out⟩
theorem adjV {w0 : World} {L : List Ent} {g n cap : Nat} {d : List Int} (w : World) (lo hi i s c : Nat) (F : Fr w0 w (eU g n cap d :: eS s c :: L)) (ha : lo < i) (hb : i + 1 < hi) (hh : hi ≤ n) (hn : n ≤ 100000) (hc : c ≤ 100) :
    Calls Try.prog 136 #[.slice (some ⟨g, 0, none⟩) n cap, .int .i64 i, .pointer (some ⟨s, 0, none⟩)] w fun e w' => ∃ (m c' : Nat), e = .returned (.int .i64 m) ∧ lo ≤ m ∧ m < hi ∧ c' ≤ c + 3 ∧ Fr w0 w' (eU g n cap d :: eS s c' :: L) := by
  obtain ⟨t, rfl⟩ : ∃ t, i = t + 1 := ⟨i - 1, by omega⟩
  exact adjU w lo hi t s c F (by omega) (by omega) hh hn hc
set_option maxRecDepth 100000 in
set_option maxHeartbeats 8000000 in
theorem pivU {w0 : World} {L : List Ent} {g n cap : Nat} {d : List Int} (w : World) (a b : Nat) (F : Fr w0 w (eU g n cap d :: L)) (hab : a < b) (hb : b ≤ n) (hn : n ≤ 100000) :
    Calls Try.prog 104 #[.slice (some ⟨g, 0, none⟩) n cap, .int .i64 a, .int .i64 b] w fun e w' => (∃ (m : Nat) (h : Int), e = .returned (.tuple #[.int .i64 m, .int .i64 h]) ∧ a ≤ m ∧ m < b) ∧ Fr w0 w' (eU g n cap d :: L) := by
  have HF := Lib.hid F
  clear F
  obtain ⟨H, hH⟩ : ∃ H : Nat, (b : Int) - (a : Int) = H := ⟨b - a, by omega⟩
  obtain ⟨M, hM⟩ : ∃ M : Nat, (H : Int) / 4 = M := ⟨H / 4, by omega⟩
  obtain ⟨I, hI⟩ : ∃ I : Nat, a + M = I := ⟨_, rfl⟩
  obtain ⟨J, hJ⟩ : ∃ J : Nat, a + M * 2 = J := ⟨_, rfl⟩
  obtain ⟨K, hK⟩ : ∃ K : Nat, a + M * 3 = K := ⟨_, rfl⟩
  have i1 : (a : Int) + (M : Int) * 1 = (I : Int) := by omega
  have i1' : (a : Int) + (M : Int) = (I : Int) := by omega
  have i2 : (a : Int) + (M : Int) * 2 = (J : Int) := by omega
  have i3 : (a : Int) + (M : Int) * 3 = (K : Int) := by omega
  obtain ⟨S, hS⟩ : ∃ S, w.heap.size = S := ⟨_, rfl⟩
  have F1 := HF.out.new 3 #[.int .i64 0] (ints [((0 : Nat) : Int)]) rfl 1 rfl (by omega)
  rw [hS] at F1
  have HF1 := Lib.hid (show Fr w0 _ (eU g n cap d :: eS S 0 :: L) from F1.swap)
  clear F1 HF
  have fin : ∀ (W : World) (m c : Nat), Fr w0 W (eU g n cap d :: eS S c :: L) → Fr w0 W (eU g n cap d :: L) := fun W m c h => h.sub (M := eU g n cap d :: L) (List.Sublist.cons_cons _ (List.sublist_cons_self _ _))
  have FIN := Lib.hid fin
  clear fin
  by_cases h8 : H < 8
  · have d1 : decide ((8 : Int) ≤ (H : Int)) = false := decide_eq_false (by omega)
    obtain ⟨c1, z1⟩ := HF1.out.getS
    have z0 : (((0 : Nat) : Int) == 0) = true := rfl
    go_enter Try.func104, Try.ntmps104
    go_wp2_with fail
    go_ret2
    exact ⟨⟨J, 1, rfl, by omega, by omega⟩, FIN.out _ J 0 HF1.out⟩
  · have d1 : decide ((8 : Int) ≤ (H : Int)) = true := decide_eq_true (by omega)
    go_enter Try.func104, Try.ntmps104
    go_upto_if 34 with (fail)
    go_cut [10, 11, 12] from 34 (fun s10 s11 s12 wc => ∃ (i j k c : Nat), s10 = .int .i64 i ∧ s11 = .int .i64 j ∧ s12 = .int .i64 k ∧ (a ≤ i ∧ i < b) ∧ (a ≤ j ∧ j < b) ∧ (a ≤ k ∧ k < b) ∧ c ≤ 9 ∧ Hid (Fr w0 wc (eU g n cap d :: eS S c :: L)))
    case first =>
      by_cases h50 : 50 ≤ H
      · have d2 : decide ((50 : Int) ≤ (H : Int)) = true := decide_eq_true (by omega)
        go_wp2_with fail
        refine (adjV _ a b I S 0 HF1.out (by omega) (by omega) hb hn (by omega)).mono ?_; rintro e w1 ⟨m1, k1, rfl, m1a, m1b, hk1, hf⟩
        have HF2 := Lib.hid hf
        clear hf HF1
        go_wp2_with fail
        refine (adjV _ a b J S k1 HF2.out (by omega) (by omega) hb hn (by omega)).mono ?_; rintro e w2 ⟨m2, k2, rfl, m2a, m2b, hk2, hf⟩
        have HF3 := Lib.hid hf
        clear hf HF2
        go_wp2_with fail
        refine (adjV _ a b K S k2 HF3.out (by omega) (by omega) hb hn (by omega)).mono ?_; rintro e w3 ⟨m3, k3, rfl, m3a, m3b, hk3, hf⟩
        have HF4 := Lib.hid hf
        clear hf HF3
        go_wp2_with fail
        go_meet
        exact ⟨m1, m2, m3, k3, rfl, rfl, rfl, ⟨m1a, m1b⟩, ⟨m2a, m2b⟩, ⟨m3a, m3b⟩, by omega, HF4⟩
      · have d2 : decide ((50 : Int) ≤ (H : Int)) = false := decide_eq_false (by omega)
        go_wp2_with fail
        go_meet
        exact ⟨I, J, K, 0, rfl, rfl, rfl, by omega, by omega, by omega, by omega, HF1⟩
    case rest =>
      obtain ⟨i, j, k, c, rfl, rfl, rfl, bi, bj, bk, hc, HF5⟩ := hcut
      clear HF1
      go_wp2_with fail
      refine (medU _ a b i j k S c HF5.out bi bj bk hb (by omega)).mono ?_; rintro e w1 ⟨m, k1, rfl, ma, mb, hk1, hf⟩
      have HF6 := Lib.hid hf
      clear hf HF5
      obtain ⟨c1, z1⟩ := HF6.out.getS
      by_cases h0 : k1 = 0
      · have e0 : ((k1 : Int) == 0) = true := by rw [beq_iff_eq]; omega
        go_wp2_with fail
        go_ret2
        exact ⟨⟨m, 1, rfl, ma, mb⟩, FIN.out _ m k1 HF6.out⟩
      have e0 : ((k1 : Int) == 0) = false := by rw [beq_eq_false_iff_ne]; omega
      by_cases h12 : k1 = 12
      · have e2 : ((k1 : Int) == 12) = true := by rw [beq_iff_eq]; omega
        go_wp2_with fail
        go_ret2
        exact ⟨⟨m, 2, rfl, ma, mb⟩, FIN.out _ m k1 HF6.out⟩
      have e2 : ((k1 : Int) == 12) = false := by rw [beq_eq_false_iff_ne]; omega
      go_wp2_with fail
      go_ret2
      exact ⟨⟨m, 0, rfl, ma, mb⟩, FIN.out _ m k1 HF6.out⟩
end Go.Proofs.Ytdabgibmbmhmdaa
