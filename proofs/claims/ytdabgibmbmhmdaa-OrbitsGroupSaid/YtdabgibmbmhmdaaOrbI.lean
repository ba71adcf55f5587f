/- Is a row among the rows: the two closures of castkeep.OrbitsGroup. -/
import Derived.Test.YtdabgibmbmhmdaaWOrb3
import Derived.Test.YtdabgibmbmhmdaaRkC
import Derived.RegionTactic
import Derived.ChangeAlike
import Derived.Shelf.Abstract
namespace Go.Proofs.Ytdabgibmbmhmdaa
open Go.RowKit

theorem enters16 : ∀ args w, (callFunc 59 args).run Try.prog w = .ok (.enter 59 args) w := enters_of Try.func59 (by kernel_rfl) rfl
set_option maxRecDepth 100000 in
theorem inner (x y : List Int) (n : Nat) (xa ya : Option Addr) (xc yc K : Nat) (w : World) (hk : w.cell? ⟨K, 0, none⟩ = some (.slice xa n xc)) (hx : Sa w xa (ints x)) (lx : x.length = n) (hy : Sa w ya (ints y)) (ly : y.length = n) (n6 : n ≤ 6) :
    Calls Try.prog 59 #[.slice ya n yc, .pointer (some ⟨K, 0, none⟩)] w (RetB (decide (x = y)) w) := by
  have HE := Lib.hid (slEqual x y n n xa ya xc yc w hx hy lx ly (by omega) (by omega))
  clear hx lx hy ly
  go_enter Try.func59, Try.ntmps59
  go_wp2_with fail
  refine HE.out.mono ?_; rintro e w1 ⟨rfl, hf⟩
  go_wp2_with fail
  go_ret
  exact ⟨rfl, hf⟩
set_option maxRecDepth 100000 in
set_option maxHeartbeats 4000000 in
theorem idxRowsF (P : List Int → Bool) (g : Nat) (cl : Array Value) (hg : ∀ args w, (callFunc g args).run Try.prog w = .ok (.enter g args) w) (S : List Rw) (s : Nat) (ad : Option Addr) (cap : Nat) (w : World) (hS : Rm w ad S) (hs : S.length = s) (s7 : s ≤ 720)
    (hf : ∀ p ∈ S, ∀ w', Fr w w' [] → Calls Try.prog g (#[rv p] ++ cl) w' (RetB (P p.2.2) w')) (hin : ∃ p ∈ S, P p.2.2 = true) :
    Calls Try.prog 95 #[.slice ad s cap, .func (.func g) #[] cl] w fun e w' => ∃ i : Nat, e = .returned (.int .i64 i) ∧ Fr w w' [] := by
  have HS := Lib.hid hS; have HL := Lib.hid hs; have HFn := Lib.hid hf; have HIn := Lib.hid hin
  clear hS hs hf hin
  go_enter Try.func95, Try.ntmps95
  go_wp2_with fail
  go_loopw [8] (fun i wr => ∃ k : Nat, k ≤ s ∧ i = .int .i64 k ∧ Hid (∀ j (h : j < S.length), j < k → P S[j].2.2 = false) ∧ Hid (Fr w wr [])) (fun i _ => s - (intOf i).toNat)
  case atStart => exact ⟨0, by omega, rfl, Lib.hid (fun j _ h => by omega), Lib.hid (Fr.start w)⟩
  case round =>
    obtain ⟨k, hk, rfl, HN, HF⟩ := hrel
    by_cases hlt : k < s
    · have hkS : k < S.length := by rw [HL.out]; exact hlt
      obtain ⟨b1, o1, rfl, hb1, c1, -⟩ := (HS.out.keep HF.out.bel).at k hkS
      have hc := HFn.out _ (List.getElem_mem hkS) wr HF.out
      obtain ⟨B, hB⟩ : ∃ B, P S[k].2.2 = B := ⟨_, rfl⟩
      rw [hB] at hc
      have HB := Lib.hid hB
      obtain ⟨u, hu⟩ : ∃ u, rv S[k] = u := ⟨_, rfl⟩
      rw [hu] at c1 hc
      have HC := Lib.hid hc
      have d1 : (0 : Int) ≤ (k : Int) := by omega
      have d2 : (k : Int) < (s : Int) := by omega
      clear hB hu hc
      cases B
      · go_wp2_with (go_at_fn g; refine HC.out.mono ?_; rintro e w2 ⟨rfl, hf2⟩; have HF2 := Lib.hid (HF.out.keep hf2.bel); clear hf2)
        refine ⟨⟨k + 1, by omega, by simp, Lib.hid (fun j hj hjk => ?_), HF2⟩, by simp only [intOf]; omega⟩
        by_cases e : j = k
        · subst e; exact HB.out
        · exact HN.out j hj (by omega)
      · go_wp2_with (go_at_fn g; refine HC.out.mono ?_; rintro e w2 ⟨rfl, hf2⟩; have HF2 := Lib.hid (HF.out.keep hf2.bel); clear hf2)
        go_ret
        exact ⟨k, rfl, HF2.out⟩
    · obtain rfl : k = s := by omega
      obtain ⟨p, hp, e⟩ := HIn.out
      obtain ⟨i, hi, rfl⟩ := List.getElem_of_mem hp
      rw [HN.out i hi (by rw [← HL.out]; exact hi)] at e
      cases e
theorem contRows (P : List Int → Bool) (g : Nat) (cl : Array Value) (hg : ∀ args w, (callFunc g args).run Try.prog w = .ok (.enter g args) w) (S : List Rw) (s : Nat) (ad : Option Addr) (cap : Nat) (w : World) (hS : Rm w ad S) (hs : S.length = s) (s7 : s ≤ 720)
    (hf : ∀ p ∈ S, ∀ w', Fr w w' [] → Calls Try.prog g (#[rv p] ++ cl) w' (RetB (P p.2.2) w')) (hin : ∃ p ∈ S, P p.2.2 = true) :
    Calls Try.prog 58 #[.slice ad s cap, .func (.func g) #[] cl] w (RetB true w) := by
  have HI := Lib.hid (idxRowsF P g cl hg S s ad cap w hS hs s7 hf hin)
  clear hg hS hs hf hin
  go_enter Try.func58, Try.ntmps58
  go_wp2_with fail
  refine HI.out.mono ?_; rintro e w1 ⟨i, rfl, hf1⟩
  have d1 : decide ((0 : Int) ≤ (i : Int)) = true := decide_eq_true (by omega)
  go_wp2_with fail
  go_ret
  exact ⟨rfl, hf1⟩
set_option maxRecDepth 100000 in
set_option maxHeartbeats 4000000 in
/-- 'it has this one' -/
theorem hasOk (S : List Rw) (s : Nat) (ad : Option Addr) (cap : Nat) (x : List Int) (n : Nat) (xa : Option Addr) (xc B : Nat) (w : World) (hS : Rm w ad S) (hs : S.length = s) (s7 : s ≤ 720) (hl : ∀ p ∈ S, p.2.2.length = n) (hB : B < w.heap.size) (hb : w.cell? ⟨B, 0, none⟩ = some (.slice ad s cap)) (hx : Sa w xa (ints x)) (lx : x.length = n) (n6 : n ≤ 6) (hin : x ∈ lsR S) :
    Calls Try.prog 57 #[.slice xa n xc, .pointer (some ⟨B, 0, none⟩)] w (RetB true w) := by
  obtain ⟨K, hK⟩ : ∃ K, w.heap.size = K := ⟨_, rfl⟩
  have h1 := (Fr.start w).new 22 #[.slice xa n xc] [.slice xa n xc] rfl 1 rfl (by omega)
  rw [hK] at h1
  obtain ⟨b0, o0, e0, hk0, hk1⟩ := (h1.get 0 rfl).at 0 (by simp)
  cases e0
  simp only [List.getElem?_cons_zero, Nat.add_zero] at hk1
  have HC := Lib.hid (contRows (fun y => decide (x = y)) 59 #[.pointer (some ⟨K, 0, none⟩)] enters16 S s ad cap _ (hS.keep h1.bel) hs s7 (fun p hp w' hf => by
    have hpl := hl p hp
    have := inner x p.2.2 n xa p.1 xc p.2.1 K w' ((hf.bel.cell (p := ⟨K, 0, none⟩) hk0).trans hk1) (hx.keep (kin_trans h1.bel hf.bel)) lx ((hS.keep h1.bel).row p hp |>.keep hf.bel) hpl n6
    unfold rv
    rw [hpl]
    exact this) (by
    obtain ⟨p, hp, e⟩ := List.mem_map.1 hin
    exact ⟨p, hp, decide_eq_true e.symm⟩))
  have hcb := (h1.bel.cell (p := ⟨B, 0, none⟩) hB).trans hb
  have HF1 := Lib.hid h1.below
  clear hS hs hl hB hb hx lx hin h1 hk0 hk1
  go_enter Try.func57, Try.ntmps57
  go_wp2_with fail
  refine HC.out.mono ?_; rintro e w1 ⟨rfl, hf1⟩
  go_wp2_with fail
  go_ret
  exact ⟨rfl, HF1.out.keep hf1.bel⟩
end Go.Proofs.Ytdabgibmbmhmdaa
