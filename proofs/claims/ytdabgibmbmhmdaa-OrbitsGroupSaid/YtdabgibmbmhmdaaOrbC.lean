/- orbits.Check of orders. -/
import Derived.Test.YtdabgibmbmhmdaaOrbM
import Derived.Test.YtdabgibmbmhmdaaRms
namespace Go.Proofs.Ytdabgibmbmhmdaa
open Go.RowKit

set_option maxRecDepth 100000 in
set_option maxHeartbeats 4000000 in
theorem orbChk (n : Nat) (R : List Rw) (m : Nat) (a : Option Addr) (cap : Nat) (w : World) (h : Rm w a R) (hm : R.length = m) (n6 : n ≤ 6) (m6 : m ≤ 6) (hp : AllPn n (lsR R)) :
    Calls Try.prog 91 #[.int .i64 n, .slice a m cap] w fun e w' => e = .returned (.int .i64 0) ∧ Fr w w' [] := by
  have HR := Lib.hid h; have HM := Lib.hid hm; have HP := Lib.hid hp
  have g1 : decide ((n : Int) < 0) = false := decide_eq_false (by omega)
  have g2 : decide ((6 : Int) < (n : Int)) = false := decide_eq_false (by omega)
  have g3 : decide ((6 : Int) < (m : Int)) = false := decide_eq_false (by omega)
  clear h hm hp
  go_enter Try.func91, Try.ntmps91
  go_wp2_with fail
  clear g1 g2 g3
  go_loopw [18] (fun i wr => ∃ k : Nat, k ≤ m ∧ i = .int .i64 k ∧ Hid (Fr w wr [])) (fun i _ => m - (intOf i).toNat)
  case atStart => exact ⟨0, by omega, rfl, Lib.hid (Fr.start w)⟩
  case round =>
    obtain ⟨k, hk, rfl, HF⟩ := hrel
    by_cases hlt : k < m
    · have hkR : k < R.length := by rw [HM.out]; exact hlt
      obtain ⟨b1, o1, rfl, hb1, c1, s1⟩ := (HR.out.keep HF.out.bel).at k hkR
      have hpn := HP.out R[k].2.2 (List.mem_map.2 ⟨_, List.getElem_mem hkR, rfl⟩)
      obtain ⟨⟨p1, q1, l⟩, hp⟩ : ∃ p : Rw, R[k] = p := ⟨_, rfl⟩
      rw [hp] at c1 s1 hpn
      simp only [rv] at c1
      simp only at s1 hpn
      rw [hpn.1] at c1
      have HC := Lib.hid (permChk l n p1 q1 wr s1 hpn.1 hpn.2 (by omega))
      have d1 : (0 : Int) ≤ (k : Int) := by omega
      have d2 : (k : Int) < (m : Int) := by omega
      have g : ((n : Int) != (n : Int)) = false := by simp
      clear hp s1 hpn
      go_wp2_with fail
      refine HC.out.mono ?_; rintro e w2 ⟨rfl, hf2⟩
      have HF2 := Lib.hid (HF.out.keep hf2.bel)
      clear hf2
      go_wp2_with fail
      exact ⟨⟨k + 1, by omega, by simp, HF2⟩, by simp only [intOf]; omega⟩
    · obtain rfl : k = m := by omega
      go_wp2_with fail
      go_ret
      exact ⟨rfl, HF.out⟩
end Go.Proofs.Ytdabgibmbmhmdaa
