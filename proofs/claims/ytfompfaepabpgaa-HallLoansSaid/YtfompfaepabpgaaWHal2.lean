/- The walk of HallLoans. -/
import Derived.Test.YtfompfaepabpgaaDeedF
import Derived.Test.YtfompfaepabpgaaHalL
namespace Go.Proofs.Ytfompfaepabpgaa
open Go.RowKit

theorem doS4 {s : HSt} {n : Int} {nm to : ByteArray} (h : (doS s 4 n nm to).er = 0) : nm ∈ nmsM s.M ∧ namedB nm = true ∧ doS s 4 n nm to = ⟨⟨(backA nm s).M, (backA nm s).L⟩, nm, (backA nm s).t, 0⟩ := by
  cases hn : namedB nm
  · unfold doS at h
    rw [if_neg (by decide), if_neg (by decide), if_pos (by decide), if_pos hn] at h
    cases h
  · cases hm : s.M[findM nm s.M]? with
    | none =>
      unfold doS at h
      rw [if_neg (by decide), if_neg (by decide), if_pos (by decide), if_neg (by rw [hn]; simp), if_neg (by decide), hm] at h
      cases h
    | some m =>
      rw [doS_at (by omega) hn hm]
      refine ⟨findM_mem (List.getElem?_eq_some_iff.1 hm).1, rfl, ?_⟩
      unfold atS
      rw [if_neg (by decide), if_neg (by decide), if_pos rfl]
theorem doS_in {s : HSt} {k n : Int} {nm to : ByteArray} (hk : k = 2 ∨ k = 3 ∨ k = 4 ∨ k = 6) (hn : namedB nm = true) (h : nm ∈ nmsM s.M) : ∃ m, m.nm = nm ∧ doS s k n nm to = atS s k n nm to (findM nm s.M) m := by
  obtain ⟨m, hm⟩ : ∃ m, s.M[findM nm s.M]? = some m := ⟨_, List.getElem?_eq_getElem (findM_lt h)⟩
  exact ⟨m, findM_nm hm, doS_at hk hn hm⟩
theorem halTkIn {w0 w : World} {H : Nat} {s : HSt} {B : List Big} (h : Hw w0 w H s B) (h8 : s.M.length ≤ 8) {nm : ByteArray} (hn : nm ∈ nmsM s.M) :
    Calls Try.prog 14 #[.pointer (some ⟨H, 0, .none⟩), .string nm] w fun e w' => e = .returned (.tuple #[.int .i64 (tkN nm s.M), .int .i64 0]) ∧ Hw w0 w' H s B := by
  have := halTkW h h8 nm
  rw [tkOf_some hn] at this
  exact this
theorem nms_back {s : HSt} {K : Nat} (h : HOk s K) (nm : ByteArray) : nmsM (backA nm s).M = nmsM s.M := (backA_ok h nm).nms
theorem nms_lend (s : HSt) (i : Nat) (n : Int) (nm to : ByteArray) : nmsM (lendW s i n nm to).M = nmsM s.M := by
  unfold lendW; split
  · simp only; rw [nmsM_bumpM, nmsM_bumpM]
  · rfl
set_option maxRecDepth 100000 in
set_option maxHeartbeats 16000000 in
theorem loans_row (a : Option Addr) (n cap : Nat) (nm to : ByteArray) (v : Int) (w : World) (hrow : IsStr [.int, .int, .str, .str] w a n cap) (hz1 : nm.size ≤ maxLen) (sz : n * 48 ≤ 140737488351232) :
    Calls Try.prog 4 #[.slice a n cap, .string nm, .string to, .int .i64 v] w fun e w' => e = .returned (.bool true) ∧ Below w.heap.size w w' := by
  obtain ⟨D, hD⟩ := hrow.deeds
  have HD := Lib.hid hD
  have HZ1 := Lib.hid hz1
  clear hrow hD
  go_enter Try.func4, Try.ntmps4
  go_wp2_with fail
  refine (hallsOk w).mono ?_; rintro e w1 ⟨rfl, hb1⟩
  have HB1 := Lib.hid hb1
  clear hb1
  go_wp2_with fail
  refine (workedOk D n a cap w1 (HD.out.below HB1.out) (by omega)).mono ?_; rintro e w2 ⟨H, rfl, hw2⟩
  have hok := runD_ok D ⟨[], []⟩ 0 (hok0 0)
  rw [HD.out.len, Nat.zero_add] at hok
  generalize runD D ⟨[], []⟩ = s at *
  have HW2 := Lib.hid hw2
  have HOK := Lib.hid hok
  have HC2 := Lib.hid (halDo H s [] n 4 0 nm ⟨#[]⟩ hw2 hok (by omega) hz1)
  clear hw2 hok hz1 HD
  go_wp2_with fail
  refine HC2.out.mono ?_; rintro e w3 ⟨rfl, hw3⟩
  have HX := Lib.hid (doS4 (s := s) (n := 0) (nm := nm) (to := ⟨#[]⟩))
  have hok1 := doS_ok HOK.out 4 0 nm ⟨#[]⟩
  generalize hr : doS s 4 0 nm ⟨#[]⟩ = r at *
  obtain ⟨s1, nm1, n1, er1⟩ := r
  obtain ⟨N3, hN3⟩ : ∃ N, w3.heap.size = N := ⟨_, rfl⟩
  have HW3 := Lib.hid (hw3.newTold nm1 n1 hN3)
  have HOK1 := Lib.hid hok1
  clear hr hw3 hok1 HC2 HW2
  by_cases he : er1 = 0
  · subst he
    obtain ⟨hm, hn, hs1⟩ := HX.out rfl
    simp only [DR.mk.injEq] at hs1
    have hm1 : nm ∈ nmsM s1.M := by rw [hs1.1]; show nm ∈ nmsM (backA nm s).M; rw [nms_back HOK.out]; exact hm
    have HM1 := Lib.hid hm1
    have HN := Lib.hid hn
    simp only at HW3 HOK1
    have HC4 := Lib.hid (halTkIn HW3.out HOK1.out.l8 hm1)
    clear hm hs1 HX hm1 hn
    go_wp2_with fail
    refine HC4.out.mono ?_; rintro e w4 ⟨rfl, hw4⟩
    have HW4 := Lib.hid hw4
    have HC5 := Lib.hid (halTkW hw4 HOK1.out.l8 to)
    clear hw4 HC4 HW3
    obtain ⟨A, hA⟩ : ∃ A, tkN nm s1.M = A := ⟨_, rfl⟩
    have HA := Lib.hid hA
    rw [hA]
    clear hA
    go_wp2_with fail
    refine HC5.out.mono ?_; rintro e w5 ⟨rfl, hw5⟩
    have HW5 := Lib.hid hw5
    have HC6 := Lib.hid (halDo H s1 _ (n + 1) 3 v nm to hw5 HOK1.out (by omega) HZ1.out)
    clear hw5 HC5 HW4
    obtain ⟨b, hb⟩ : ∃ b, (tkOf to s1.M).getD 0 = b := ⟨_, rfl⟩
    obtain ⟨f, hf⟩ : ∃ f : Int, (if (tkOf to s1.M).isSome = true then (0 : Int) else 4) = f := ⟨_, rfl⟩
    have HBF := Lib.hid hb
    have HFF := Lib.hid hf
    rw [hb, hf]
    clear hb hf
    go_wp2_with fail
    refine HC6.out.mono ?_; rintro e w6 ⟨rfl, hw6⟩
    obtain ⟨m1, hm1, hd⟩ := doS_in (k := 3) (n := v) (to := to) (by omega) HN.out HM1.out
    have hok2 := doS_ok HOK1.out 3 v nm to
    unfold atS at hd
    rw [if_neg (by decide), if_pos rfl] at hd
    rw [hd] at hw6 hok2 ⊢
    obtain ⟨N6, hN6⟩ : ∃ N, w6.heap.size = N := ⟨_, rfl⟩
    have HW6 := Lib.hid (hw6.newTold ⟨#[]⟩ 0 hN6)
    have HOK2 := Lib.hid hok2
    have HLL := Lib.hid (loans_law HOK1.out (n := v) (nm := nm) (to := to) HM1.out)
    have HS2 := Lib.hid (fun (he : lendE s1 (findM nm s1.M) v to ≠ 0) => (show lendW s1 (findM nm s1.M) v nm to = s1 by unfold lendW; rw [if_neg he]))
    have HN2 := Lib.hid (nms_lend s1 (findM nm s1.M) v nm to)
    clear hd hw6 hok2 HC6 HW5 hm1
    generalize lendW s1 (findM nm s1.M) v nm to = s2 at *
    generalize lendE s1 (findM nm s1.M) v to = er2 at *
    have hm2 : nm ∈ nmsM s2.M := by rw [HN2.out]; exact HM1.out
    have HM2 := Lib.hid hm2
    have HC7 := Lib.hid (halTkIn HW6.out HOK2.out.l8 hm2)
    clear hm2
    by_cases he2 : er2 = 0
    · subst he2
      obtain ⟨c1, c2, c3, c4, c5, c6, c7⟩ := HLL.out rfl
      have hfz : f = 0 := by rw [← HFF.out, tkOf_some c5]; rfl
      have hbz : 0 ≤ b := by
        rw [← HBF.out, tkOf_some c5]
        exact (HOK1.out.tk.2 (findM to s1.M) (by rw [tksL_len]; exact findM_lt c5)).1
      subst hfz
      have ha0 := HOK1.out.tk.2 (findM nm s1.M) (by rw [tksL_len]; exact findM_lt HM1.out)
      have ha1 : 0 ≤ A ∧ A ≤ 100 := by rw [← HA.out]; exact ha0
      rw [HA.out] at c1 c7
      have HC2' := Lib.hid c2
      have HC5' := Lib.hid c5
      obtain ⟨a0, a1⟩ := ha1
      clear c2 c5 ha0 HLL HS2
      go_wp2_with fail
      refine (good_list [0, 0] (w6.alloc (.cells #[.string ⟨#[]⟩, .int .i64 0] 32)) (N6 + 1) _ (by simp [hN6]) #[.int .i64 0, .int .i64 0] rfl 2 rfl (by omega)).mono ?_; rintro e w7 ⟨rfl, hw7⟩
      have HW7 : Hid (Hw w1 w7 H s2 _) := Lib.hid (hw7 ▸ HW6.out.alloc (.cells #[.int .i64 0, .int .i64 0] 28))
      have HC7 := Lib.hid (halTkIn HW7.out HOK2.out.l8 HM2.out)
      obtain ⟨C, hC⟩ : ∃ C, tkN nm s2.M = C := ⟨_, rfl⟩
      rw [hC] at HC7 c1
      clear hw7 HW6 hC
      go_wp2_with fail
      refine HC7.out.mono ?_; rintro e w8 ⟨rfl, hw8⟩
      have HW8 := Lib.hid hw8
      have HC8 := Lib.hid (halDo H s2 _ (n + 2) 2 0 nm ⟨#[]⟩ hw8 HOK2.out (by omega) HZ1.out)
      clear hw8 HC7 HW7
      go_wp2_with fail
      refine HC8.out.mono ?_; rintro e w9 ⟨rfl, hw9⟩
      obtain ⟨m2, hm2, hd⟩ := doS_in (k := 2) (n := 0) (to := ⟨#[]⟩) (by omega) HN.out HM2.out
      unfold atS leaveW leaveE at hd
      rw [if_pos rfl, hm2, HC2'.out, if_pos rfl, if_pos rfl] at hd
      rw [hd] at hw9 ⊢
      obtain ⟨N9, hN9⟩ : ∃ N, w9.heap.size = N := ⟨_, rfl⟩
      have HW9 := Lib.hid (hw9.newTold ⟨#[]⟩ 0 hN9)
      have HC9 := Lib.hid (halDo H s2 _ (n + 2) 4 0 nm ⟨#[]⟩ HW9.out HOK2.out (by omega) HZ1.out)
      clear hw9 hd hm2 HC8 HW8
      go_wp2_with fail
      refine HC9.out.mono ?_; rintro e w10 ⟨rfl, hw10⟩
      obtain ⟨m3, -, hd⟩ := doS_in (k := 4) (n := 0) (to := ⟨#[]⟩) (by omega) HN.out HM2.out
      have hok3 := doS_ok HOK2.out 4 0 nm ⟨#[]⟩
      unfold atS at hd
      rw [if_neg (by decide), if_neg (by decide), if_pos rfl] at hd
      rw [hd] at hw10 hok3 ⊢
      simp only at hw10 hok3 ⊢
      obtain ⟨N10, hN10⟩ : ∃ N, w10.heap.size = N := ⟨_, rfl⟩
      have HW10 := Lib.hid (hw10.newTold nm (backA nm s2).t hN10)
      have hm3 : nm ∈ nmsM (backA nm s2).M := by rw [nms_back HOK2.out]; exact HM2.out
      have HC10 := Lib.hid (halTkIn HW10.out hok3.l8 hm3)
      obtain ⟨E, hE⟩ : ∃ E, tkN nm (backA nm s2).M = E := ⟨_, rfl⟩
      simp only [hE] at HC10 c7
      obtain ⟨T, hT⟩ : ∃ T, (backA nm s2).t = T := ⟨_, rfl⟩
      rw [hT] at HW10 HC10 c6 ⊢
      clear hw10 hd hok3 hm3 hE hT HC9 HW9
      go_wp2_with fail
      refine HC10.out.mono ?_; rintro e w11 ⟨rfl, hw11⟩
      have HW11 := Lib.hid hw11
      clear hw11 HC10 HW10
      go_wp2_with fail
      refine (good_list [0, 0, 0] w11 _ _ rfl #[.int .i64 0, .int .i64 0, .int .i64 0] rfl 3 rfl (by omega)).mono ?_; rintro e w12 ⟨rfl, hw12⟩
      have HW12 : Hid (Hw w1 w12 H _ _) := Lib.hid (hw12 ▸ HW11.out.alloc (.cells #[.int .i64 0, .int .i64 0, .int .i64 0] 28))
      obtain ⟨p0, p1, -, -⟩ := HW12.out.told (N := N10) (nm := nm) (n := T) (by simp)
      have g1 : (C == A - v) = true := by rw [c1]; exact beq_self_eq_true _
      have g2 : decide (v ≤ T) = true := decide_eq_true c6
      have g3 : decide (A ≤ E) = true := decide_eq_true c7
      have g4 : decide (0 ≤ b) = true := decide_eq_true hbz
      have g5 : (nm.toList == nm.toList) = true := beq_self_eq_true _
      clear hw12 HW11 c1 c6 c7
      go_wp2_with fail
      go_ret
      exact ⟨rfl, kin_trans HB1.out HW12.out.below⟩
    · have z : (er2 != 0) = true := by rw [bne_iff_ne]; exact he2
      have hs2 := HS2.out he2
      subst hs2
      rw [HA.out] at HC7
      have g5 : (A == A) = true := beq_self_eq_true _
      clear HLL HS2
      go_wp2_with fail
      refine HC7.out.mono ?_; rintro e w7 ⟨rfl, hw7⟩
      have HW7 := Lib.hid hw7
      clear hw7 HC7
      go_wp2_with fail
      go_ret
      exact ⟨rfl, kin_trans HB1.out HW7.out.below⟩
  · have z : (er1 != 0) = true := by rw [bne_iff_ne]; exact he
    go_wp2_with fail
    go_ret
    exact ⟨rfl, kin_trans HB1.out HW3.out.below⟩
end Go.Proofs.Ytfompfaepabpgaa
