/- The walk of the law WarpFront. -/
import Derived.Test.YtgblmbhbbjgdiaaWarF
namespace Go.Proofs.Ytgblmbhbbjgdiaa
open Go.RowKit

theorem turInfo : (Try.prog.info? 57).map (fun i => (i.zero, i.size, i.bytes)) = some (some (.agg #[.int .i64 0, .int .i64 0, .int .i64 0]), 3, 24) := by kernel_rfl
def frontL (T : List Tu) (k : Int) : List Tu := T.filter fun x => decide (x.t < k)
theorem front_snoc (T : List Tu) (k : Int) (j : Nat) (h : j < T.length) : frontL (T.take (j + 1)) k = if (tuA T j).t < k then frontL (T.take j) k ++ [tuA T j] else frontL (T.take j) k := by
  unfold frontL
  rw [tuA_take T j h, List.filter_append]
  by_cases e : (tuA T j).t < k
  · rw [if_pos e]; simp [e]
  · rw [if_neg e]; simp [e]
/-- what Play does of whatever comes in -/
theorem play_cases (l : List Rn) (T : List Tu) (u : Int) : (∃ er, chkW l T = er ∧ er ≠ 0) ∨ (chkW l T = 0 ∧ (u < 0 ∨ 200 < u)) ∨ (chkW l T = 0 ∧ ∃ x : Nat, u = x ∧ x ≤ 200) := by
  by_cases h : chkW l T = 0
  · by_cases h2 : u < 0 ∨ 200 < u
    · exact .inr (.inl ⟨h, h2⟩)
    · exact .inr (.inr ⟨h, u.toNat, by omega, by omega⟩)
  · exact .inl ⟨_, rfl, h⟩

set_option maxRecDepth 100000 in
set_option maxHeartbeats 8000000 in
theorem warpFront_any (l : List Rn) (T : List Tu) (n m : Nat) (a b : Option Addr) (ca cb : Nat) (u v : Int) (w : World) (h : Sa w a (ths l)) (h' : Sa w b (tus T)) (hn : l.length = n) (hm : T.length = m) (hcb : m ≤ cb) :
    Calls Try.prog 8 #[.slice a n ca, .slice b m cb, .int .i64 u, .int .i64 v] w fun e w' => e = .returned (.bool true) ∧ Below w.heap.size w w' := by
  have HN := Lib.hid hn; have HM := Lib.hid hm; have HS := Lib.hid h; have HS' := Lib.hid h'
  clear h h' hn hm
  go_enter Try.func8, Try.ntmps8
  go_wp2_with fail
  refine (warps_any _).mono ?_; rintro e w1 ⟨rfl, hb⟩
  have HF1 := Lib.hid ((Fr.start w).keep hb)
  clear hb
  go_wp2_with fail
  rcases play_cases l T u with ⟨er, he, h0⟩ | ⟨he, hu⟩ | ⟨he, x, rfl, hx⟩
  · refine (warPlay_no l T n m u _ _ _ _ _ (HF1.out.old HS.out) (HF1.out.old HS'.out) HN.out HM.out er he h0).mono ?_; rintro e w2 ⟨rfl, hb⟩
    have HB2 := Lib.hid (HF1.out.keep hb).bel
    have z : (er != 0) = true := by rw [bne_iff_ne]; exact h0
    clear hb he
    go_wp2_with fail
    go_ret
    exact ⟨rfl, HB2.out⟩
  · refine (warPlay_arg l T n m u _ _ _ _ _ (HF1.out.old HS.out) (HF1.out.old HS'.out) HN.out HM.out he hu).mono ?_; rintro e w2 ⟨rfl, hb⟩
    have HB2 := Lib.hid (HF1.out.keep hb).bel
    clear hb he
    go_wp2_with fail
    go_ret
    exact ⟨rfl, HB2.out⟩
  · refine (warPlay_yes l T n m x _ _ _ _ _ (HF1.out.old HS.out) (HF1.out.old HS'.out) HN.out HM.out hcb he hx).mono ?_; rintro e w2 ⟨rd, rc, ed, ec, rfl, hrc, _, hf⟩
    have HF2 := Lib.hid (HF1.out.call hf)
    have hok := chkW_ok he
    rw [HN.out, HM.out] at hok
    have n8 := hok.n8
    have m30 := hok.m30
    have z1 : ((x : Int) != (x : Int)) = false := by simp
    have r1 := Int.emod_nonneg v (b := (x : Int) + 1) (by omega)
    have r2 := Int.emod_lt_of_pos v (b := (x : Int) + 1) (by omega)
    obtain ⟨k, hk⟩ : ∃ k : Nat, v % ((x : Int) + 1) = k := ⟨(v % ((x : Int) + 1)).toNat, by omega⟩
    have HK := Lib.hid hk
    have hkx : k ≤ x := by omega
    have hch := chk_front he (k : Int)
    have hrf := ranW_front l T k
    have hrt := ranW_take l T x k hkx
    have HCH := Lib.hid hch; have HRF := Lib.hid hrf; have HRT := Lib.hid hrt; have HE := Lib.hid he; have HOK := Lib.hid hok
    clear hf hk r1 r2 hch hrf hrt he hok
    go_wp2_with (go_at_call 14; refine (within_any _ _ _ (by omega) (by omega)).mono ?_; rintro e w' ⟨rfl, rfl⟩; rw [HK.out])
    clear z1
    go_loopw [12, 49] (fun s12 i wr => ∃ (j p : Nat) (v : Value), j ≤ m ∧ p ≤ j ∧ i = .int .i64 j ∧ v = s12 ∧ Hid ((frontL (T.take j) k).length = p) ∧ Hid (wr.ownsRow w2.heap.size 57 3 v p (tus (frontL (T.take j) k))) ∧ Hid (Below w2.heap.size w2 wr)) (fun _ i _ => m - (intOf i).toNat)
    case atStart => exact ⟨0, 0, _, by omega, by omega, rfl, rfl, Lib.hid rfl, Lib.hid (World.ownsRow_nil _ _ _ _), Lib.hid (Below.refl _ _)⟩
    case round =>
      obtain ⟨j, p, v, hj, hpj, rfl, rfl, HP, HO, HB⟩ := hrel
      by_cases hlt : j < m
      · obtain ⟨b', off, rfl, hb, c0, c1, c2⟩ := ((HF2.out.keep HB.out).old HS'.out).tuA j (by rw [HM.out]; exact hlt)
        have hst := front_snoc T k j (by rw [HM.out]; exact hlt)
        obtain ⟨⟨t, who, kind⟩, hr⟩ : ∃ r, tuA T j = r := ⟨_, rfl⟩
        rw [hr] at c0 c1 c2 hst
        simp only at c0 c1 c2 hst
        have i1 : (0 : Int) ≤ (j : Int) := by omega
        have i2 : (j : Int) < (m : Int) := by omega
        have HO2 := Lib.hid (World.ownsRow.alloc HO.out (.cells #[.int .i64 t, .int .i64 who, .int .i64 kind] 57))
        have HB2 := Lib.hid (HB.out.alloc HB.out.size (.cells #[.int .i64 t, .int .i64 who, .int .i64 kind] 57))
        clear hr
        by_cases hlk : t < (k : Int)
        · rw [if_pos hlk] at hst
          have f1 : decide (t < (k : Int)) = true := decide_eq_true hlk
          have hts : tus (frontL (T.take j) k) ++ [.int .i64 t, .int .i64 who, .int .i64 kind] = tus (frontL (T.take (j + 1)) k) := by rw [hst]; exact tus_snoc _ ⟨t, who, kind⟩
          have hpl : (frontL (T.take (j + 1)) k).length = p + 1 := by rw [hst, List.length_append, HP.out]; rfl
          have HTS := Lib.hid hts; have HPL := Lib.hid hpl
          clear hst hts hpl
          go_wp2_with (with_reducible refine at_slot 60 ?_; go_must (refine wpList_pushStr rfl _ _ 55 57 _ 3 24 Try.underlying55 turInfo rfl (by decide) (by decide) rfl v p _ [.int .i64 t, .int .i64 who, .int .i64 kind] rfl HO2.out HB2.out _ (by simp) rfl rfl ?_ ?_ ?_); rotate_left; rotate_left; intro v' w3 ho2 hb2 hlt2)
          · rw [HTS.out] at ho2
            exact ⟨⟨j + 1, p + 1, v', by omega, by omega, by simp, rfl, HPL, Lib.hid ho2, Lib.hid hb2⟩, by simp only [intOf]; omega⟩
          · intro y hy
            simp only [List.mem_cons, List.not_mem_nil, or_false] at hy
            rcases hy with rfl | rfl | rfl <;> rfl
          · omega
        · rw [if_neg hlk] at hst
          have f1 : decide (t < (k : Int)) = false := decide_eq_false hlk
          have HP2 : Hid ((frontL (T.take (j + 1)) k).length = p) := Lib.hid (by rw [hst]; exact HP.out)
          rw [← hst] at HO2
          clear hst
          go_wp2_with fail
          exact ⟨⟨j + 1, p, v, by omega, by omega, by simp, rfl, HP2, HO2, HB2⟩, by simp only [intOf]; omega⟩
      · obtain rfl : j = m := by omega
        obtain ⟨ad, cp, rfl, hcp, hfb⟩ := FB.of HO.out HB.out
        rw [List.take_of_length_le (by rw [HM.out]; exact Nat.le_refl _)] at hfb HP
        have HFB := Lib.hid hfb
        have HF3 := Lib.hid (HF2.out.keep hfb.bel)
        have hx200 : k ≤ 200 := by omega
        clear HO HB hfb
        go_wp2_with fail
        refine (warPlay_yes l (frontL T k) n p k _ _ _ _ _ (HF3.out.old HS.out) HFB.out.sa HN.out HP.out hcp HCH.out hx200).mono ?_; rintro e w4 ⟨rd4, rc4, ed4, ec4, rfl, _, _, hf⟩
        have HF4 := Lib.hid (HF3.out.call hf)
        clear hf
        have hA := HF4.out.get 1 rfl
        have hB := (HF4.out.get 3 rfl).take k
        rw [show (frontL T k) = T.filter fun x => decide (x.t < (k : Int)) from rfl, HRF.out] at hA
        rw [ints_take, HRT.out] at hB
        have hkc : (k : Int) ≤ (rc : Int) := by omega
        have HA := Lib.hid hA; have HBB := Lib.hid hB
        clear hA hB
        go_wp2_with fail
        refine (slEqual (ranW l T k) (ranW l T k) k k _ _ _ _ _ HA.out HBB.out (ranW_len l T k) (ranW_len l T k) (by omega) (by omega)).mono ?_; rintro e w5 ⟨rfl, hf⟩
        have HB7 : Hid (Below w.heap.size w w5) := Lib.hid (HF4.out.keep hf.bel).bel
        rw [decide_eq_true (rfl : ranW l T k = ranW l T k)]
        clear hf
        go_wp2_with fail
        go_ret
        exact ⟨rfl, HB7.out⟩
theorem warpFront_row (a0 : Option Addr) (len0 cap0 : Nat) (a1 : Option Addr) (len1 cap1 : Nat) (u v : Int) (w : World) (w0 : IsStr [.int, .int, .bool, .bool] w a0 len0 cap0) (w1 : IsStr [.int, .int, .int] w a1 len1 cap1) :
    Calls Try.prog 8 #[.slice a0 len0 cap0, .slice a1 len1 cap1, .int .i64 u, .int .i64 v] w fun e w' => e = .returned (.bool true) ∧ Below w.heap.size w w' := by
  obtain ⟨l, h1, _, _, h2⟩ := w0.ths
  obtain ⟨T, k1, k2, _, k3⟩ := w1.tus
  exact warpFront_any l T len0 len1 a0 a1 cap0 cap1 u v w h2 k3 h1 k1 k2
end Go.Proofs.Ytgblmbhbbjgdiaa
