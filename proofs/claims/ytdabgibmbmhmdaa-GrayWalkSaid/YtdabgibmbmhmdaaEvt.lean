/- Contracts of package event. -/
import Derived.Test.YtdabgibmbmhmdaaEvtM
namespace Go.Proofs.Ytdabgibmbmhmdaa
open Go.RowKit

def hws (l : List Nat) : List Value := l.map fun s : Nat => Value.int .u16 (s : Int)
theorem hws_len (l : List Nat) : (hws l).length = l.length := by simp [hws]
theorem hws_get (l : List Nat) (i : Nat) (h : i < l.length) : (hws l)[i]? = some (.int .u16 ((l.getD i 0 : Nat) : Int)) := by simp [hws, h]

set_option maxRecDepth 100000 in
set_option maxHeartbeats 1000000 in
theorem evChk (l : List Int) (ss : List Nat) (n m : Nat) (a b : Option Addr) (ca cb : Nat) (w : World) (h : Sa w a (ints l)) (h' : Sa w b (hws ss)) (hn : l.length = n) (hm : ss.length = m) (hs : ∀ s ∈ ss, s < 65536) (hm2 : m ≤ 1000) :
    Calls Try.prog 79 #[.slice a n ca, .slice b m cb] w fun e w' => e = .returned (.int .i64 (chkE l ss)) ∧ w = w' := by
  have HN := Lib.hid hn; have HM := Lib.hid hm; have HS := Lib.hid h; have HS' := Lib.hid h'; have H16 := Lib.hid hs
  clear h h' hs hm
  have e2 : chkE l ss = if n < 1 ∨ 12 < n then 2 else if l.any (fun x => decide (x < 1 ∨ 100 < x)) then 1 else if ss.any (fun s => decide (2 ^ n ≤ s)) then 3 else 0 := by rw [← hn]; rfl
  by_cases hl : n < 1 ∨ 12 < n
  · rw [if_pos hl] at e2
    have E2 := Lib.hid e2
    clear e2 hn
    rcases hl with hl | hl
    · obtain rfl : n = 0 := by omega
      go_enter Try.func79, Try.ntmps79
      go_wp2_with fail
      go_ret
      exact ⟨by rw [E2.out]; rfl, rfl⟩
    · have d1 : decide ((n : Int) < 1) = false := decide_eq_false (by omega)
      have d2 : decide ((12 : Int) < (n : Int)) = true := decide_eq_true (by omega)
      go_enter Try.func79, Try.ntmps79
      go_wp2_with fail
      go_ret
      exact ⟨by rw [E2.out]; rfl, rfl⟩
  · rw [if_neg hl] at e2
    have E2 := Lib.hid e2
    have n1 : 1 ≤ n := by omega
    have n12 : n ≤ 12 := by omega
    have d1 : decide ((n : Int) < 1) = false := decide_eq_false (by omega)
    have d2 : decide ((12 : Int) < (n : Int)) = false := decide_eq_false (by omega)
    clear e2 hn hl
    go_enter Try.func79, Try.ntmps79
    go_wp2_with fail
    go_loop [19] (fun i => ∃ k : Nat, k ≤ n ∧ i = .int .i64 k ∧ Hid (∀ x ∈ l.take k, ¬ (x < 1 ∨ 100 < x))) (fun i => n - (intOf i).toNat)
    case atStart => exact ⟨0, by omega, rfl, Lib.hid (by simp)⟩
    case round =>
      obtain ⟨k, hk, rfl, HG⟩ := hrel
      by_cases hlt : k < n
      · obtain ⟨b', off, rfl, hb, hc⟩ := HS.out.int k (by rw [HN.out]; exact hlt)
        have hsn := take_nth l k (by rw [HN.out]; exact hlt)
        have hmem := nth_mem l k (by rw [HN.out]; exact hlt)
        obtain ⟨x, hx⟩ : ∃ x, nth l k = x := ⟨_, rfl⟩
        rw [hx] at hc hsn hmem
        by_cases hbad : x < 1 ∨ 100 < x
        · have E3 : Hid (chkE l ss = 1) := Lib.hid (by rw [E2.out, if_pos (List.any_eq_true.2 ⟨x, hmem, by simpa using hbad⟩)])
          clear hx hmem hsn
          rcases hbad with hbad | hbad
          · have d3 : decide (x < 1) = true := decide_eq_true hbad
            go_wp2_with fail
            go_ret
            exact ⟨by rw [E3.out]; rfl, rfl⟩
          · have d3 : decide (x < 1) = false := decide_eq_false (by omega)
            have d4 : decide (100 < x) = true := decide_eq_true hbad
            go_wp2_with fail
            go_ret
            exact ⟨by rw [E3.out]; rfl, rfl⟩
        · have HG2 : Hid (∀ y ∈ l.take (k + 1), ¬ (y < 1 ∨ 100 < y)) := Lib.hid fun y hy => by
            rw [hsn] at hy
            rcases List.mem_append.1 hy with hy | hy
            · exact HG.out y hy
            · rw [List.mem_singleton] at hy; rw [hy]; exact hbad
          have d3 : decide (x < 1) = false := decide_eq_false (by omega)
          have d4 : decide (100 < x) = false := decide_eq_false (by omega)
          clear hx hmem hsn HG hbad
          go_wp2_with fail
          exact ⟨⟨k + 1, by omega, by simp, HG2⟩, by simp only [intOf]; omega⟩
      · have E3 : Hid (chkE l ss = if ss.any (fun s => decide (2 ^ n ≤ s)) then 3 else 0) := Lib.hid (by
          rw [E2.out, if_neg]
          intro hany
          obtain ⟨x, hx, hb⟩ := List.any_eq_true.1 hany
          have := HG.out x (by rw [List.take_of_length_le (by rw [HN.out]; omega)]; exact hx)
          simp at hb; exact this hb)
        clear HG E2
        go_wp2_with fail
        go_loop [32] (fun i => ∃ k : Nat, k ≤ m ∧ i = .int .i64 k ∧ Hid (∀ x ∈ ss.take k, ¬ 2 ^ n ≤ x)) (fun i => m - (intOf i).toNat)
        case atStart => exact ⟨0, by omega, rfl, Lib.hid (by simp)⟩
        case round =>
          obtain ⟨k, hk, rfl, HG⟩ := hrel
          by_cases hlt : k < m
          · obtain ⟨b', off, rfl, hb, hc⟩ := HS'.out.at k (by rw [hws_len, HM.out]; exact hlt)
            rw [hws_get _ _ (by rw [HM.out]; exact hlt)] at hc
            have hkl : k < ss.length := by rw [HM.out]; exact hlt
            have hgd : ss.getD k 0 = ss[k] := by simp [hkl]
            have hsn : ss.take (k + 1) = ss.take k ++ [ss.getD k 0] := by rw [List.take_succ_eq_append_getElem hkl, hgd]
            have hmem : ss.getD k 0 ∈ ss := by rw [hgd]; exact List.getElem_mem _
            obtain ⟨x, hx⟩ : ∃ x, ss.getD k 0 = x := ⟨_, rfl⟩
            rw [hx] at hc hsn hmem
            have x16 := H16.out x hmem
            by_cases hbad : 2 ^ n ≤ x
            · have E4 : Hid (chkE l ss = 3) := Lib.hid (by rw [E3.out, if_pos (List.any_eq_true.2 ⟨x, hmem, by simpa using hbad⟩)])
              have E : ((x : Int) / 2 ^ n != 0) = true := by
                have : 0 < x / 2 ^ n := Nat.div_pos hbad (Nat.two_pow_pos n)
                have e : (x : Int) / 2 ^ n = ((x / 2 ^ n : Nat) : Int) := by simp
                rw [e, bne_iff_ne]; omega
              clear hx hmem hsn hbad HG hgd hkl
              go_wp2_with fail
              go_ret
              exact ⟨by rw [E4.out]; rfl, rfl⟩
            · have HG2 : Hid (∀ y ∈ ss.take (k + 1), ¬ 2 ^ n ≤ y) := Lib.hid fun y hy => by
                rw [hsn] at hy
                rcases List.mem_append.1 hy with hy | hy
                · exact HG.out y hy
                · rw [List.mem_singleton] at hy; rw [hy]; exact hbad
              have E : (x : Int) / 2 ^ n = 0 := by
                have : x / 2 ^ n = 0 := Nat.div_eq_of_lt (by omega)
                have e : (x : Int) / 2 ^ n = ((x / 2 ^ n : Nat) : Int) := by simp
                rw [e, this]; rfl
              clear hx hmem hsn HG hbad hgd hkl
              go_wp2_with fail
              exact ⟨⟨k + 1, by omega, by simp, HG2⟩, by simp only [intOf]; omega⟩
          · have E4 : Hid (chkE l ss = 0) := Lib.hid (by
              rw [E3.out, if_neg]
              intro hany
              obtain ⟨x, hx, hb⟩ := List.any_eq_true.1 hany
              have := HG.out x (by rw [List.take_of_length_le (by rw [HM.out]; omega)]; exact hx)
              simp at hb; exact this hb)
            go_wp2_with fail
            go_ret
            exact ⟨by rw [E4.out]; rfl, rfl⟩

end Go.Proofs.Ytdabgibmbmhmdaa
