/- Several of my texts in one: Dsk4. -/
import Derived.Test.YtbolgfiafbhicaaDoorDF42
import Derived.Test.YtbolgfiafbhicaaDoorDF44
import Derived.Deep.CutRange
/- Contract of asked: rank, order, turned, shapes. -/
namespace Go.Proofs.YtbolgfiafbhicaaDoor
open Go.RowKit

/-- a text, or a thrown error -/
def AskSaid (R : Ou) (w : World) (e : Ending) (w' : World) : Prop := Fr w w' [] ∧ ((∃ b, R = .ok b ∧ e = .returned (.string b)) ∨ (∃ er, R = .error er ∧ e = .panicked (refL er)))
/-- a number alone, listed -/
theorem listOne (x : Int) (w : World) (N : Nat) (hN : w.heap.size = N) (hx : -9223372036854775808 ≤ x ∧ x ≤ 9223372036854775807) (ht : TabW w) :
    Calls Tryd.prog 34 #[.slice (some ⟨N, 0, none⟩) 1 1] (w.alloc (.cells #[.int .i64 x] 3)) fun e w' => e = .returned (.string (listB [x])) ∧ Fr w w' [] := by
  have hf := (Fr.start w).lit' [x] #[.int .i64 x] rfl 1 rfl (by omega) 3 N hN
  refine (deskList [x] 1 _ 1 _ (hf.get 0 rfl) rfl (by omega) (fun y hy => by rw [List.mem_singleton] at hy; subst hy; exact hx) (ht.keep hf.bel)).mono ?_
  rintro e w' ⟨rfl, h2⟩
  exact ⟨rfl, hf.below.keep h2.bel⟩
theorem eqw (a b : ByteArray) (h : a = b) : (a.toList == b.toList) = true := by rw [str_eq, decide_eq_true h]
theorem new (a b : ByteArray) (h : a ≠ b) : (a.toList == b.toList) = false := by rw [str_eq, decide_eq_false h]
theorem facN_le {n : Nat} (h : n ≤ 10) : facN n ≤ 3628800 := facN_10 n h
set_option maxRecDepth 100000 in
set_option maxHeartbeats 8000000 in
theorem askRank (wd : ByteArray) (hw : wd.toList = [114, 97, 110, 107]) (l : List ByteArray) (n : Nat) (a : Option Addr) (cap : Nat) (w : World) (h : Sa w a (strV l)) (hn : l.length = n) (hm : n ≤ 10000) (hl : ∀ s ∈ l, s.size ≤ maxLen) (ht : TabW w) :
    Calls Tryd.prog 22 #[.string wd, .slice a n cap] w (AskSaid (rankA l) w) := by
  have HNS := Lib.hid (deskNums l n a cap w h hn hm hl); have HT := Lib.hid ht
  have HLN := Lib.hid (fun p (hp : numsB l = some p) => numsB_bd hp)
  have HN := Lib.hid hn
  obtain ⟨R, hR⟩ : ∃ R, numsB l = R := ⟨_, rfl⟩
  have HA : Hid (rankA l = rankO R) := Lib.hid (by unfold rankA; rw [hR])
  rw [hR] at HNS HLN
  clear h hn hl ht hR
  go_enter Tryd.func22, Tryd.ntmps22
  go_wp2_with fail
  refine HNS.out.mono ?_
  rintro e w1 (⟨p, ad, m, cp, rfl, rfl, hpm, hcp, hf1⟩ | ⟨rfl, rfl, hf1⟩)
  · have HB := Lib.hid (HLN.out p rfl)
    have HF1 := Lib.hid hf1
    have HPM := Lib.hid hpm
    have hm2 : m ≤ 10000 := by have := HB.out.1; have := HN.out; omega
    by_cases hc : chkP p = 0
    · have HO : Hid (rankA l = .ok (listB [ofC (codeL p)])) := Lib.hid (by rw [HA.out, rankO, if_pos hc])
      obtain ⟨c10, cp1⟩ := chkP_ok hc
      have HC := Lib.hid (rankOf p m ad cp w1 (hf1.get 0 rfl) hpm cp1 (by omega) hcp)
      have hbd := ofC_bd (codeL p) (codeL_ok p)
      rw [codeL_len, hpm] at hbd
      have := facN_le (n := m) (by omega)
      have hx : 0 ≤ ofC (codeL p) ∧ ofC (codeL p) ≤ 3628800 := ⟨hbd.1, by omega⟩
      obtain ⟨x, hxe⟩ : ∃ x, ofC (codeL p) = x := ⟨_, rfl⟩
      rw [hxe] at HC HO hx
      clear hf1 hpm hc c10 cp1 hbd this hxe HA HNS HLN
      go_wp2_with fail
      refine HC.out.mono ?_; rintro e w2 ⟨rfl, hb2⟩
      have HF2 := Lib.hid (HF1.out.below.keep hb2)
      clear hb2 HC HF1
      go_wp2_with fail
      refine (must0 _).mono ?_; rintro e w3 ⟨rfl, rfl⟩
      obtain ⟨N, hN⟩ : ∃ N, w2.heap.size = N := ⟨_, rfl⟩
      have HL := Lib.hid (listOne x w2 N hN (by omega) (HT.out.keep HF2.out.bel))
      go_wp2_with fail
      refine HL.out.mono ?_; rintro e w4 ⟨rfl, hf4⟩
      have HF4 := Lib.hid (HF2.out.keep hf4.bel)
      clear hf4 HL
      go_wp2_with fail
      go_ret
      exact ⟨HF4.out, .inl ⟨_, HO.out, rfl⟩⟩
    · have HO : Hid (rankA l = .error (chkP p)) := Lib.hid (by rw [HA.out, rankO, if_neg hc])
      have HC := Lib.hid (rankOfNo p m ad cp w1 (hf1.get 0 rfl) hpm (by unfold maxLen; omega) hc)
      have HM := Lib.hid (mustE (chkP p) hc)
      obtain ⟨x, hxe⟩ : ∃ x, chkP p = x := ⟨_, rfl⟩
      rw [hxe] at HC HO HM
      clear hf1 hpm hc hxe HA HNS HLN
      go_wp2_with fail
      refine HC.out.mono ?_; rintro e w2 ⟨rfl, hf2⟩
      have HF2 := Lib.hid (HF1.out.below.keep hf2.bel)
      clear hf2 HC HF1
      go_wp2_with fail
      refine (HM.out _).mono ?_; rintro e w3 ⟨rfl, rfl⟩
      go_wp2_with fail
      exact ⟨rfl, HF2.out, .inr ⟨_, HO.out, rfl⟩⟩
  · have HF1 := Lib.hid hf1
    have HO : Hid (rankA l = .error 10) := HA
    clear hf1 HNS HLN
    go_wp2_with fail
    exact ⟨rfl, HF1.out, .inr ⟨10, HO.out, rfl⟩⟩
theorem isP_bd {l : List Int} (h : IsP l) : ∀ v ∈ l, 0 ≤ v ∧ v < (l.length : Int) := fun v hv => by
  obtain ⟨i, hi, rfl⟩ := List.getElem_of_mem hv
  have := h.bd i hi
  simpa [nth, hi] using this
theorem two_of {p : List Int} (h : p.length = 2) : ∃ x y, p = [x, y] := by
  match p, h with
  | [x, y], _ => exact ⟨x, y, rfl⟩
set_option maxRecDepth 100000 in
set_option maxHeartbeats 8000000 in
theorem askOrder (wd : ByteArray) (hw : wd.toList = [111, 114, 100, 101, 114]) (l : List ByteArray) (a : Option Addr) (cap : Nat) (w : World) (h : Sa w a (strV l)) (hn : l.length = 2) (hl : ∀ s ∈ l, s.size ≤ maxLen) (ht : TabW w) :
    Calls Tryd.prog 22 #[.string wd, .slice a 2 cap] w (AskSaid (orderA l) w) := by
  have hn2 := Lib.hid hn
  have HNS := Lib.hid (deskNums l 2 a cap w h hn (by omega) hl); have HT := Lib.hid ht
  have HLN := Lib.hid (fun p (hp : numsB l = some p) => numsB_bd hp)
  obtain ⟨R, hR⟩ : ∃ R, numsB l = R := ⟨_, rfl⟩
  have HA : Hid (orderA l = orderO R) := Lib.hid (by unfold orderA; rw [hR])
  rw [hR] at HNS HLN
  have g2 : ((2 : Int) == 2) = true := rfl
  clear h hn hl ht hR
  go_enter Tryd.func22, Tryd.ntmps22
  go_wp2_with fail
  refine HNS.out.mono ?_
  rintro e w1 (⟨p, ad, m, cp, rfl, rfl, hpm, hcp, hf1⟩ | ⟨rfl, rfl, hf1⟩)
  · have HB := Lib.hid (HLN.out p rfl)
    have hp2 : p.length = 2 ∨ p.length ≠ 2 := by omega
    rcases hp2 with hp2 | hp2
    · obtain ⟨x, y, rfl⟩ := two_of hp2
      obtain rfl : m = 2 := by rw [← hpm]; rfl
      have hbx := HB.out.2 x (by simp)
      have hby := HB.out.2 y (by simp)
      obtain ⟨nn, rfl⟩ : ∃ nn : Nat, x = nn := ⟨x.toNat, by omega⟩
      obtain ⟨kk, rfl⟩ : ∃ kk : Nat, y = kk := ⟨y.toNat, by omega⟩
      have hk6 : kk ≤ 999999 := by omega
      obtain ⟨G, rfl, -, -, hcl, -⟩ := hf1.open (by simp [ints])
      have x0 := hcl 0 (by simp [ints])
      have x1 := hcl 1 (by simp [ints])
      simp only [ints, List.map_cons, List.map_nil, List.getElem?_cons_zero, List.getElem?_cons_succ] at x0 x1
      have HF1 := Lib.hid hf1.below.drew
      clear hf1 hcl hpm hp2 hbx hby HB HLN HNS
      by_cases hc : nn ≤ 10 ∧ kk < facN nn
      · have HO : Hid (orderA l = .ok (listB (atS nn (upTo nn) kk))) := Lib.hid (by rw [HA.out]; unfold orderO; simp only [Int.toNat_natCast]; rw [if_pos ⟨by omega, by omega⟩])
        have HC := Lib.hid (rankAt nn kk w1.drew hc.1 hc.2)
        have hn10 := hc.1
        have HAT := Lib.hid (at_isP nn kk hc.2)
        clear HA hc
        go_wp2_with fail
        go_region_with (first | (go_at_call 35; refine HC.out.mono ?_; rintro e w2 ⟨ad2, cp2, rfl, hc2, hf2⟩; have HF2 := Lib.hid (HF1.out.call hf2); have HS2 := Lib.hid (hf2.get 0 rfl); clear hf2))
        all_goals
          go_wp2_with fail
          refine (must0 _).mono ?_; rintro e w3 ⟨rfl, rfl⟩
          have HL := Lib.hid (deskList _ nn _ cp2 w2 HS2.out (atS_len nn (upTo nn) kk) (by omega) (fun v hv => by
            have := (isP_bd HAT.out v hv); rw [atS_len] at this; omega) (HT.out.keep HF2.out.bel))
          go_wp2_with fail
          refine HL.out.mono ?_; rintro e w4 ⟨rfl, hf4⟩
          have HF4 := Lib.hid (HF2.out.below.keep hf4.bel)
          clear hf4 HL
          go_wp2_with fail
          go_ret
          exact ⟨HF4.out, .inl ⟨_, HO.out, rfl⟩⟩
      · have HO : Hid (orderA l = .error 1) := Lib.hid (by rw [HA.out]; unfold orderO; simp only [Int.toNat_natCast]; rw [if_neg (fun h => hc ⟨by omega, by omega⟩)])
        have HC := Lib.hid (rankAtNo nn kk w1.drew hc hk6)
        clear HA hc
        go_wp2_with fail
        go_region_with (first | (go_at_call 35; refine HC.out.mono ?_; rintro e w2 ⟨rfl, rfl⟩))
        all_goals
          go_wp2_with fail
          refine (mustE 1 (by decide) _).mono ?_; rintro e w3 ⟨rfl, rfl⟩
          go_wp2_with fail
          exact ⟨rfl, HF1.out, .inr ⟨_, HO.out, rfl⟩⟩
    · exfalso
      have := HB.out.1
      rw [hn2.out] at this
      exact hp2 this
  · have HF1 := Lib.hid hf1
    have HO : Hid (orderA l = .error 10) := HA
    clear hf1 HNS HLN
    go_wp2_with fail
    exact ⟨rfl, HF1.out, .inr ⟨10, HO.out, rfl⟩⟩
end Go.Proofs.YtbolgfiafbhicaaDoor
