/- Contract of tape.Draw; bitsOf, tapes. -/
import Derived.Test.YtnjnndodfdghbaaTape
namespace Go.Proofs.Ytnjnndodfdghbaa
open Go.RowKit

def ret3 (x u e : Int) : Ending := .returned (.tuple #[.int .i64 x, .int .i64 u, .int .i64 e])
def DrawSaid (l : List Int) (n : Int) (w : World) (e : Ending) (w' : World) : Prop :=
  w = w' ∧ ((¬ (1 ≤ n ∧ n ≤ 1024) ∧ e = ret3 0 0 1) ∨ (1 ≤ n ∧ n ≤ 1024 ∧ ((∃ (x : Int) (u : Nat), drawR (bitsN n.toNat) n l 0 = some (x, u) ∧ e = ret3 x u 0) ∨ (drawR (bitsN n.toNat) n l 0 = none ∧ e = ret3 0 0 6))))
theorem u8Elem : Try.prog.elem 42 = 5 := by kernel_rfl
theorem u8Size : (Try.prog.info? 5).map (fun i => i.size) = some 1 := by kernel_rfl
theorem tpBits_no (n : Int) (w : World) (h : ¬ (1 ≤ n ∧ n ≤ 1024)) :
    Calls Try.prog 60 #[.int .i64 n] w fun e w' => e = .returned (.tuple #[.int .i64 0, .int .i64 1]) ∧ w = w' := by
  by_cases h1 : n < 1
  · clear h
    go_enter Try.func60, Try.ntmps60
    go_wp2_with fail
    go_ret2
    exact ⟨rfl, rfl⟩
  · have h2 : 1024 < n := by omega
    clear h
    go_enter Try.func60, Try.ntmps60
    go_wp2_with fail
    go_ret2
    exact ⟨rfl, rfl⟩
theorem pow_10 : ∀ j, j ≤ 10 → 2 ^ j ≤ 1024 := by decide

set_option maxRecDepth 100000 in
set_option maxHeartbeats 2000000 in
theorem tpDraw (l : List Int) (m : Nat) (a : Option Addr) (cap : Nat) (n : Int) (w : World) (h : Sa w a (byts l)) (hm : l.length = m) (hp : Bit01 l) (hl : m ≤ 200) (hc : m ≤ cap) :
    Calls Try.prog 56 #[.slice a m cap, .int .i64 n] w (DrawSaid l n w) := by
  have HM := Lib.hid hm; have HS := Lib.hid h; have HP := Lib.hid hp
  clear hm h hp
  by_cases hn : 1 ≤ n ∧ n ≤ 1024
  · have HNN := Lib.hid hn
    obtain ⟨n1, n2⟩ := hn
    obtain ⟨k1, k2, k3⟩ := bitsN_spec n.toNat (by omega)
    go_enter Try.func56, Try.ntmps56
    go_wp2_with fail
    refine (tpChk l m _ _ _ HS.out HM.out HP.out hl).mono ?_; rintro e w' ⟨rfl, rfl⟩
    go_wp2_with fail
    refine (tpBits n _ n1 n2).mono ?_; rintro e w' ⟨rfl, rfl⟩
    obtain ⟨k, hk⟩ : ∃ k, bitsN n.toNat = k := ⟨_, rfl⟩
    rw [hk] at k2 ⊢
    have HK := Lib.hid hk
    clear k1 k3 hk
    go_wp2_with fail
    go_loop [10] (fun i => ∃ p : Nat, p ≤ m ∧ i = .int .i64 p ∧ Hid (drawR k n l 0 = drawR k n (l.drop p) p)) (fun i => m - (intOf i).toNat)
    case atStart => exact ⟨0, by omega, rfl, Lib.hid (by rw [List.drop_zero])⟩
    case round =>
      obtain ⟨p, hpm, rfl, HD⟩ := hrel
      have hlen : (l.drop p).length = m - p := by rw [List.length_drop, HM.out]
      have HLEN := Lib.hid hlen; clear hlen
      by_cases hle : p + k ≤ m
      · obtain ⟨ad', cp', hsl, hsa, hcp⟩ := slice_midT 42 5 Try.underlying42 u8Elem u8Size a m cap p k hle hc (byts l) (by rw [byts_len, HM.out])
        have hs1 := hsa _ HS.out
        rw [byts_drop, byts_take] at hs1
        have HS1 := Lib.hid hs1
        have HQ : Hid (((l.drop p).take k).length = k) := Lib.hid (by rw [List.length_take, HLEN.out]; omega)
        have HB := Lib.hid ((HP.out.drop p))
        clear hsa hs1
        go_wp2_with fail
        clear hsl
        go_loop [11, 43] (fun x i => ∃ j : Nat, j ≤ k ∧ i = .int .i64 j ∧ x = .int .i64 (valL ((l.drop p).take j))) (fun _ i => k - (intOf i).toNat)
        case atStart => exact ⟨0, by omega, rfl, rfl⟩
        case round =>
          obtain ⟨j, hj, rfl, rfl⟩ := hrel
          by_cases hlt : j < k
          · obtain ⟨b, off, rfl, hb, hcell⟩ := HS1.out.byt j (by rw [HQ.out]; exact hlt)
            rw [nth_take _ _ _ hlt] at hcell
            obtain ⟨p1, p2⟩ := HB.out (nth (l.drop p) j) (nth_mem _ _ (by rw [HLEN.out]; omega))
            obtain ⟨v1, v2⟩ := valL_bd j (l.drop p) HB.out (by rw [HLEN.out]; omega)
            have v3 := pow_10 j (by omega)
            have v4 : valL ((l.drop p).take j) < 1024 := by omega
            have hs := Lib.hid (show valL ((l.drop p).take (j + 1)) = _ from by rw [take_nth _ j (by rw [HLEN.out]; omega), valL_snoc])
            obtain ⟨x, hx⟩ : ∃ x, nth (l.drop p) j = x := ⟨_, rfl⟩
            obtain ⟨V, hV⟩ : ∃ V, valL ((l.drop p).take j) = V := ⟨_, rfl⟩
            rw [hx] at hcell p1 p2
            rw [hV] at v1 v4 ⊢
            have HX := Lib.hid hx; have HV := Lib.hid hV
            clear hx hV v2 v3
            go_wp2_with fail
            exact ⟨⟨j + 1, by omega, by simp, by rw [hs.out, HX.out, HV.out]⟩, by simp only [intOf]; omega⟩
          · obtain rfl : j = k := by omega
            have hyes := drawR_yes j n (l.drop p) p (by rw [HLEN.out]; omega)
            have hno := fun hk => drawR_no j n (l.drop p) p hk (by rw [HLEN.out]; omega)
            have hz : j = 0 → valL ((l.drop p).take j) = 0 := fun h => by subst h; rfl
            obtain ⟨V, hV⟩ : ∃ V, valL ((l.drop p).take j) = V := ⟨_, rfl⟩
            rw [hV] at hyes hno hz ⊢
            clear hV
            by_cases hvn : V < n
            · have HY := Lib.hid (hyes hvn)
              clear hyes hno hz
              go_wp2_with fail
              go_ret3
              exact ⟨rfl, .inr ⟨HNN.out.1, HNN.out.2, .inl ⟨V, p + j, by rw [HK.out, HD.out, HY.out], rfl⟩⟩⟩
            · have j0 : 0 < j := by
                rcases Nat.eq_zero_or_pos j with h | h
                · have := hz h; omega
                · exact h
              have HY := Lib.hid (hno j0 hvn)
              clear hyes hno hz
              go_wp2_with fail
              refine ⟨⟨p + j, by omega, by simp, Lib.hid ?_⟩, by simp only [intOf]; omega⟩
              rw [HD.out, HY.out, List.drop_drop]
      · have HY := Lib.hid (drawR_short k n (l.drop p) p (by rw [HLEN.out]; omega))
        go_wp2_with fail
        go_ret3
        exact ⟨rfl, .inr ⟨HNN.out.1, HNN.out.2, .inr ⟨by rw [HK.out, HD.out, HY.out], rfl⟩⟩⟩
  · go_enter Try.func56, Try.ntmps56
    go_wp2_with fail
    refine (tpChk l m _ _ _ HS.out HM.out HP.out hl).mono ?_; rintro e w' ⟨rfl, rfl⟩
    go_wp2_with fail
    refine (tpBits_no n _ hn).mono ?_; rintro e w' ⟨rfl, rfl⟩
    go_wp2_with fail
    go_ret3
    exact ⟨rfl, .inl ⟨hn, rfl⟩⟩

def MadeBy (l : List Int) (w : World) (e : Ending) (w' : World) : Prop :=
  ∃ (ad : Option Addr) (n cp : Nat), e = .returned (.slice ad n cp) ∧ l.length = n ∧ n ≤ cp ∧ Fr w w' [⟨5, .slice ad n cp, byts l⟩]
def bitsL (l : List Int) (t : Nat) : List Int := (l.take t).map (· % 2)
theorem bitsL_01 (l : List Int) (t : Nat) : Bit01 (bitsL l t) := fun x hx => by
  simp only [bitsL, List.mem_map] at hx
  obtain ⟨y, _, rfl⟩ := hx
  omega

set_option maxHeartbeats 1000000 in
theorem bitsOf_any (l : List Int) (n : Nat) (a : Option Addr) (cap : Nat) (t : Nat) (w : World) (h : Sa w a (byts l)) (hn : l.length = n) (hc : n ≤ cap) (hm : n ≤ maxLen) (ht : t ≤ 1000) (hb : ∀ x ∈ l, 0 ≤ x ∧ x ≤ 255) :
    Calls Try.prog 37 #[.slice a n cap, .int .i64 t] w (MadeBy (bitsL l t) w) := by
  unfold maxLen at hm
  obtain ⟨m, m1, m2, m3⟩ : ∃ m : Nat, m ≤ n ∧ (m : Int) ≤ (t : Int) ∧ (m = n ∨ (m : Int) = (t : Int)) := ⟨min n t, by omega, by omega, by omega⟩
  have HMIN := Lib.hid (run_min2 #[3, 3] 3 n t m m1 m2 m3)
  have HN := Lib.hid hn; have HS := Lib.hid h; have HB := Lib.hid hb
  have HM : Hid ((l.take m) = l.take t) := Lib.hid (by
    rcases m3 with h | h
    · rw [List.take_of_length_le (by omega), List.take_of_length_le (by omega)]
    · congr 1; omega)
  have HL : Hid ((bitsL l t).length = m) := Lib.hid (by unfold bitsL; rw [List.length_map, List.length_take]; omega)
  clear hn h m3 hb
  have b1 : (m : Int) ≤ (cap : Int) := by omega
  go_enter Try.func37, Try.ntmps37
  have hmin := HMIN.out
  go_wp2_with fail
  clear hmin
  go_loopw [5, 15] (fun o i wr => ∃ (k : Nat) (ad : Option Addr) (cp : Nat), k ≤ m ∧ i = .int .i64 k ∧ o = .slice ad k cp ∧ Fr w wr [⟨5, .slice ad k cp, byts ((l.take k).map (· % 2))⟩]) (fun _ i _ => m - (intOf i).toNat)
  case atStart => exact ⟨0, none, 0, by omega, rfl, rfl, (Fr.start w).nilSlice _⟩
  case round =>
    obtain ⟨k, ad, cp, hk, rfl, rfl, hfr⟩ := hrel
    by_cases hlt : k < m
    · obtain ⟨b, off, rfl, hb, hc⟩ := (hfr.old HS.out).byt k (by rw [HN.out]; omega)
      have hs := Lib.hid (take_nth l k (by rw [HN.out]; omega))
      obtain ⟨p1, p2⟩ := HB.out (nth l k) (nth_mem _ _ (by rw [HN.out]; omega))
      obtain ⟨x, hx⟩ : ∃ x, nth l k = x := ⟨_, rfl⟩
      rw [hx] at hc p1 p2
      have HX := Lib.hid hx
      have HF := Lib.hid hfr
      clear hx hfr
      have d1 : (0 : Int) ≤ (k : Int) := by omega
      have d2 : (k : Int) < (m : Int) := by omega
      go_wp2_with (with_reducible refine at_slot 23 ?_; go_must (refine wpList_push' rfl _ _ 42 5 (.int .u8 0) 1 Try.underlying42 u8Info rfl (by omega) rfl ad k cp _ (.int .u8 (x % 2)) _ _ rfl rfl HF.out rfl rfl ?_ ?_); rotate_left; intro ad' cp' w2 hf2 hlt2)
      · rw [byts_snoc, show (l.take k).map (· % 2) ++ [x % 2] = (l.take (k + 1)).map (· % 2) from by rw [hs.out, HX.out, List.map_append]; rfl] at hf2
        exact ⟨⟨k + 1, ad', cp', by omega, by simp, rfl, hf2⟩, by simp only [intOf]; omega⟩
      · omega
    · obtain rfl : k = m := by omega
      go_wp2_with fail
      go_ret
      refine ⟨ad, k, cp, rfl, HL.out, hfr.cap, ?_⟩
      rw [HM.out] at hfr
      exact hfr
end Go.Proofs.Ytnjnndodfdghbaa
