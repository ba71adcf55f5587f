/- Contracts of perm.Sign and perm.Order. -/
import Derived.Test.YtdabgibmbmhmdaaCyc
import Derived.Test.YtdabgibmbmhmdaaCycP
import Derived.RegionTactic
namespace Go.Proofs.Ytdabgibmbmhmdaa
open Go.RowKit

def sgP (p : List Int) : Int := if invN p % 2 = 1 then -1 else 1
set_option maxRecDepth 100000 in
set_option maxHeartbeats 1000000 in
theorem sign_any (p : List Int) (n : Nat) (a : Option Addr) (cap : Nat) (w : World) (h : Sa w a (ints p)) (hn : p.length = n) (hp : IsP p) (h10 : n ≤ 10) :
    Calls Try.prog 26 #[.slice a n cap] w fun e w' => e = .returned (.tuple #[.int .i64 (sgP p), .int .i64 0]) ∧ Below w.heap.size w w' := by
  have HS := Lib.hid h; have HN := Lib.hid hn; have HP := Lib.hid hp
  have HT := Lib.hid (turns_par hp)
  clear h hn hp
  go_enter Try.func26, Try.ntmps26
  go_wp2_with fail
  refine (cycles_any p n _ _ _ HS.out HN.out HP.out h10).mono ?_; rintro e w1 ⟨ad, cp, out, rfl, hok, hfr⟩
  have HC := Lib.hid hok.cnt
  have hle := hok.le
  have HB := Lib.hid hfr.bel
  clear hok hfr
  obtain ⟨M, hM⟩ : ∃ M, out.length = M := ⟨_, rfl⟩
  have HM := Lib.hid hM
  rw [hM] at hle ⊢
  rw [HN.out] at hle
  clear hM
  have hmod : ((n : Int) - (M : Int)) % 2 = (((n - M) % 2 : Nat) : Int) := by omega
  have hs : sgP p = if (n - M) % 2 = 1 then -1 else 1 := by
    unfold sgP
    have e1 := HT.out
    rw [← HC.out, HM.out, HN.out] at e1
    rw [← e1]
  have HSG := Lib.hid hs
  obtain ⟨r, hr⟩ : ∃ r, (n - M) % 2 = r := ⟨_, rfl⟩
  have hr2 : r = 0 ∨ r = 1 := by omega
  rw [hr] at hmod HSG
  clear hs hr
  rcases hr2 with rfl | rfl
  · go_wp2_with fail
    go_ret2
    exact ⟨by rw [HSG.out]; rfl, HB.out⟩
  · go_wp2_with fail
    go_ret2
    exact ⟨by rw [HSG.out]; rfl, HB.out⟩
end Go.Proofs.Ytdabgibmbmhmdaa
