/- castkeep.moved: orders of any numbers. -/
import Derived.Test.YtdabgibmbmhmdaaOrbL
import Derived.Test.YtdabgibmbmhmdaaMats3
import Derived.Test.YtdabgibmbmhmdaaBig
namespace Go.Proofs.Ytdabgibmbmhmdaa
open Go.RowKit

def MovSaid (n : Nat) (w : World) (e : Ending) (w' : World) : Prop :=
  ∃ (ad : Option Addr) (cp : Nat) (R : List Rw), e = .returned (.slice ad R.length cp) ∧ R.length ≤ 6 ∧ AllPn n (lsR R) ∧ Fr w w' (outE ad R.length cp R :: R.map re)
set_option maxRecDepth 100000 in
set_option maxHeartbeats 8000000 in
theorem movedAny (n : Nat) (n6 : n ≤ 6) (a : Option Addr) (m cap : Nat) (w : World) (h : IsMatS w a m cap) :
    Calls Try.prog 53 #[.int .i64 n, .slice a m cap] w (MovSaid n w) := by
  obtain ⟨hmc, hmm, R0, hR0, hrm, hb⟩ := h
  obtain ⟨t, t1, t2, t3⟩ : ∃ t : Nat, t ≤ m ∧ (t : Int) ≤ 6 ∧ (t = m ∨ (t : Int) = 6) := ⟨min m 6, by omega, by omega, by omega⟩
  have HMIN := Lib.hid (run_min2 #[3, 3] 3 m 6 t t1 t2 t3)
  have HR := Lib.hid hrm; have HM := Lib.hid hR0; have HB := Lib.hid hb
  unfold maxLen at hmm
  clear hrm hR0 hb t3
  have hmin := HMIN.out
  go_enter Try.func53, Try.ntmps53
  go_wp2_with fail
  clear hmin HMIN
  go_loopw [5, 14] (fun o i wr => ∃ (j : Nat) (ad : Option Addr) (cp : Nat) (R : List Rw), j ≤ t ∧ o = .slice ad j cp ∧ i = .int .i64 j ∧ Hid (R.length = j) ∧ Hid (AllPn n (lsR R)) ∧ Hid (Fr w wr (outE ad j cp R :: R.map re))) (fun _ i _ => t - (intOf i).toNat)
  case atStart => exact ⟨0, none, 0, [], by omega, rfl, rfl, Lib.hid rfl, Lib.hid (fun p hp => by cases hp), Lib.hid ((Fr.start w).nilSlice _)⟩
  case round =>
    obtain ⟨j, ad, cp, R, hj, rfl, rfl, HRl, HP, HF⟩ := hrel
    by_cases hlt : j < t
    · have hjR : j < R0.length := by rw [HM.out]; omega
      obtain ⟨b1, o1, rfl, hb1, c1, s1⟩ := (HR.out.keep HF.out.bel).at j hjR
      have hbd := HB.out _ (List.getElem_mem hjR)
      obtain ⟨⟨x1, y1, l1⟩, hp1⟩ : ∃ p : Rw, R0[j] = p := ⟨_, rfl⟩
      rw [hp1] at c1 s1 hbd
      simp only [rv] at c1
      simp only at s1 hbd
      obtain ⟨q, hq⟩ : ∃ q, l1.length = q := ⟨_, rfl⟩
      rw [hq] at c1 hbd
      obtain ⟨hb2, hb3, hb4, -, -⟩ := hbd
      have HCl := Lib.hid (slCloneG l1 q x1 y1 wr s1 hq (by omega))
      have d1 : (0 : Int) ≤ (j : Int) := by omega
      have d2 : (j : Int) < (t : Int) := by omega
      have hqs : q ≤ 17592186043904 := by omega
      have HQ := Lib.hid hq
      clear hp1 s1 hq hb2 hb3 hb4
      go_wp2_with fail
      refine HCl.out.mono ?_; rintro e w2 ⟨x2, y2, rfl, hc2, hf2⟩
      have HF2 := Lib.hid (HF.out.call hf2)
      clear hf2 HCl c1 d1 d2 HF
      go_wp2_with fail
      go_loopw [7] (fun x wr => ∃ (l : List Int) (len : Nat) (xd : Option Addr) (xc : Nat), x = .slice xd len xc ∧ Hid (l.length = len) ∧ len ≤ xc ∧ len ≤ 17592186043904 ∧ Hid (Fr w wr (⟨3, .slice xd len xc, ints l⟩ :: outE ad j cp R :: R.map re))) (fun x _ => n - (match x with | .slice _ len _ => len | _ => 0))
      case atStart => exact ⟨l1, q, x2, y2, rfl, HQ, hc2, hqs, HF2⟩
      case round =>
        clear HF2 HQ hqs hc2
        obtain ⟨l, len, xd, xc, rfl, HLl, hxc, hls, HF⟩ := hrel
        by_cases hlt2 : len < n
        · have d1 : (len : Int) < (n : Int) := by omega
          obtain ⟨N, hN⟩ : ∃ N, wr.heap.size = N := ⟨_, rfl⟩
          go_wp2_with (with_reducible refine at_slot 26 ?_; go_must (refine wpList_pushInt' rfl (.tmp 24) (.tmp 25) rfl xd len xc l 0 _ N hN rfl HF.out rfl (by omega) ?_); intro xd2 xc2 w3 hf3 hsz3)
          have hcap : len + 1 ≤ xc2 := hf3.cap
          exact ⟨⟨l ++ [0], len + 1, xd2, xc2, rfl, Lib.hid (by rw [List.length_append, HLl.out]; rfl), hcap, by omega, Lib.hid hf3⟩, by simp only []; omega⟩
        · have d1 : decide ((len : Int) < (n : Int)) = false := decide_eq_false (by omega)
          have HPo := Lib.hid (permOf_any l len xd xc n wr (HF.out.get 0 rfl) HLl.out hxc (by unfold maxLen; omega) (by omega))
          go_wp2_with fail
          refine HPo.out.mono ?_; rintro e w3 ⟨x4, n4, y4, rfl, hl4, hc4, hf4⟩
          have hpk := permL_ok l n
          rw [HLl.out, Nat.min_eq_left (by omega)] at hpk
          obtain ⟨p, hp⟩ : ∃ p, permL l n = p := ⟨_, rfl⟩
          rw [hp] at hl4 hpk hf4
          obtain rfl : n4 = n := by rw [← hl4, hpk.1]
          have HPk := Lib.hid (show Pn n4 p from hpk)
          have hf5 := HF.out.call hf4
          have hf6 := hf5.perm (show List.Perm _ (outE ad j cp R :: ⟨3, .slice x4 n4 y4, ints p⟩ :: ⟨3, .slice xd len xc, ints l⟩ :: R.map re) from (List.Perm.cons _ (List.Perm.swap _ _ _)).trans (List.Perm.swap _ _ _))
          have HF6 := Lib.hid hf6
          obtain ⟨N, hN⟩ : ∃ N, w3.heap.size = N := ⟨_, rfl⟩
          clear hl4 hpk hp hf4 hf5 hf6 HPo HF d1
          go_wp2_with (with_reducible refine at_slot 32 ?_; go_must (refine wpList_push' rfl (.tmp 27) (.tmp 31) 57 22 (.slice none 0 0) 24 Try.underlying57 slsInfo rfl (by omega) rfl ad j cp (R.map rv) (.slice x4 n4 y4) _ N hN rfl HF6.out rfl rfl (by omega) ?_); intro ad7 cp7 w7 hf7 hsz7)
          have e1 : (outE ad7 (j + 1) cp7 (R ++ [(x4, y4, p)]) :: (R ++ [(x4, y4, p)]).map re) = (⟨22, .slice ad7 (j + 1) cp7, R.map rv ++ [.slice x4 n4 y4]⟩ :: (R.map re ++ [⟨3, .slice x4 n4 y4, ints p⟩])) := by
            simp [rv, re, HPk.out.1]
          exact ⟨⟨j + 1, ad7, cp7, R ++ [(x4, y4, p)], by omega, rfl, by simp, Lib.hid (by rw [List.length_append, HRl.out]; rfl), Lib.hid (fun u hu => by
            rw [show lsR (R ++ [(x4, y4, p)]) = lsR R ++ [p] by simp [lsR]] at hu
            rcases List.mem_append.1 hu with hu | hu
            · exact HP.out u hu
            · rw [List.mem_singleton] at hu; subst hu; exact HPk.out), Lib.hid (by
            rw [e1]
            refine (hf7.perm (List.Perm.cons _ (List.Perm.swap _ _ _))).sub (M := _ :: _ :: R.map re) (.cons_cons _ (.cons _ (List.Sublist.refl _))) |>.perm (List.Perm.cons _ (List.perm_append_singleton _ _).symm))⟩, by simp only [intOf]; omega⟩
    · obtain rfl : j = t := by omega
      go_wp2_with fail
      go_ret
      exact ⟨ad, cp, R, by rw [HRl.out]; rfl, by rw [HRl.out]; omega, HP.out, by rw [HRl.out]; exact HF.out⟩
end Go.Proofs.Ytdabgibmbmhmdaa
