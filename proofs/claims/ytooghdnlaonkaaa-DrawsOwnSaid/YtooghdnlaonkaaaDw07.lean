/- Several of my texts in one: Tape, Tape2. -/
import Derived.Test.YtooghdnlaonkaaaDw06
/- Contracts of package tape. -/
namespace Go.Proofs.Ytooghdnlaonkaaa
open Go.RowKit

set_option maxHeartbeats 1000000 in
theorem tpChk (l : List Int) (n : Nat) (a : Option Addr) (cap : Nat) (w : World) (h : Sa w a (byts l)) (hn : l.length = n) (hp : Bit01 l) (hl : n ≤ 200) :
    Calls Try.prog 90 #[.slice a n cap] w fun e w' => e = .returned (.int .i64 0) ∧ w = w' := by
  have HN := Lib.hid hn; have HS := Lib.hid h; have HP := Lib.hid hp
  clear hn h hp
  go_enter Try.func90, Try.ntmps90
  go_wp2_with fail
  go_loop [10] (fun i => ∃ k : Nat, k ≤ n ∧ i = .int .i64 k) (fun i => n - (intOf i).toNat)
  case atStart => exact ⟨0, by omega, rfl⟩
  case round =>
    obtain ⟨k, hk, rfl⟩ := hrel
    by_cases hlt : k < n
    · obtain ⟨b, off, rfl, hb, hc⟩ := HS.out.byt k (by rw [HN.out]; exact hlt)
      obtain ⟨p1, p2⟩ := HP.out (nth l k) (nth_mem _ _ (by rw [HN.out]; exact hlt))
      obtain ⟨x, hx⟩ : ∃ x, nth l k = x := ⟨_, rfl⟩
      rw [hx] at hc p1 p2
      clear hx
      go_wp2_with fail
      exact ⟨⟨k + 1, by omega, by simp⟩, by simp only [intOf]; omega⟩
    · go_wp2_with fail
      go_ret
      exact ⟨rfl, rfl⟩

set_option maxHeartbeats 1000000 in
theorem tpBits (n : Int) (w : World) (h1 : 1 ≤ n) (h2 : n ≤ 1024) :
    Calls Try.prog 128 #[.int .i64 n] w fun e w' => e = .returned (.tuple #[.int .i64 (bitsN n.toNat : Nat), .int .i64 0]) ∧ w = w' := by
  obtain ⟨m, hm⟩ : ∃ m : Nat, n = m := ⟨n.toNat, by omega⟩
  subst hm
  rw [Int.toNat_natCast]
  go_enter Try.func128, Try.ntmps128
  go_wp2_with fail
  go_loop [4] (fun i => ∃ k : Nat, k ≤ 10 ∧ i = .int .i64 k ∧ Hid (bitsN m = bitsF m (10 - k) k)) (fun i => 10 - (intOf i).toNat)
  case atStart => exact ⟨0, by omega, rfl, Lib.hid rfl⟩
  case round =>
    obtain ⟨k, hk, rfl, HB⟩ := hrel
    by_cases hlt : 2 ^ k < m
    · have h10 : k < 10 := by
        rcases Nat.lt_or_ge k 10 with h | h
        · exact h
        · obtain rfl : k = 10 := by omega
          have : 2 ^ 10 = 1024 := by decide
          omega
      have HB2 : Hid (bitsN m = bitsF m (10 - (k + 1)) (k + 1)) := Lib.hid (by
        rw [HB.out, show 10 - k = (10 - (k + 1)) + 1 from by omega, bitsF, if_pos hlt])
      clear HB hk
      match k, h10, hlt, HB2 with
      | 0, _, hlt, HB2 => (go_wp2_with fail; exact ⟨⟨1, by omega, rfl, HB2⟩, by decide⟩)
      | 1, _, hlt, HB2 => (go_wp2_with fail; exact ⟨⟨2, by omega, rfl, HB2⟩, by decide⟩)
      | 2, _, hlt, HB2 => (go_wp2_with fail; exact ⟨⟨3, by omega, rfl, HB2⟩, by decide⟩)
      | 3, _, hlt, HB2 => (go_wp2_with fail; exact ⟨⟨4, by omega, rfl, HB2⟩, by decide⟩)
      | 4, _, hlt, HB2 => (go_wp2_with fail; exact ⟨⟨5, by omega, rfl, HB2⟩, by decide⟩)
      | 5, _, hlt, HB2 => (go_wp2_with fail; exact ⟨⟨6, by omega, rfl, HB2⟩, by decide⟩)
      | 6, _, hlt, HB2 => (go_wp2_with fail; exact ⟨⟨7, by omega, rfl, HB2⟩, by decide⟩)
      | 7, _, hlt, HB2 => (go_wp2_with fail; exact ⟨⟨8, by omega, rfl, HB2⟩, by decide⟩)
      | 8, _, hlt, HB2 => (go_wp2_with fail; exact ⟨⟨9, by omega, rfl, HB2⟩, by decide⟩)
      | 9, _, hlt, HB2 => (go_wp2_with fail; exact ⟨⟨10, by omega, rfl, HB2⟩, by decide⟩)
    · have HE : Hid (bitsN m = k) := Lib.hid (by
        rw [HB.out]
        cases h : 10 - k with
        | zero => rfl
        | succ f => rw [bitsF, if_neg hlt])
      clear HB
      have done : ∀ j : Nat, bitsN m = j → Ending.returned (.tuple #[.int .i64 (j : Int), .int .i64 0]) = .returned (.tuple #[.int .i64 (bitsN m : Nat), .int .i64 0]) := fun j hj => by rw [hj]
      match k, hk, hlt, HE with
      | 0, _, hlt, HE => (go_wp2_with fail; go_ret2; exact ⟨done 0 HE.out, rfl⟩)
      | 1, _, hlt, HE => (go_wp2_with fail; go_ret2; exact ⟨done 1 HE.out, rfl⟩)
      | 2, _, hlt, HE => (go_wp2_with fail; go_ret2; exact ⟨done 2 HE.out, rfl⟩)
      | 3, _, hlt, HE => (go_wp2_with fail; go_ret2; exact ⟨done 3 HE.out, rfl⟩)
      | 4, _, hlt, HE => (go_wp2_with fail; go_ret2; exact ⟨done 4 HE.out, rfl⟩)
      | 5, _, hlt, HE => (go_wp2_with fail; go_ret2; exact ⟨done 5 HE.out, rfl⟩)
      | 6, _, hlt, HE => (go_wp2_with fail; go_ret2; exact ⟨done 6 HE.out, rfl⟩)
      | 7, _, hlt, HE => (go_wp2_with fail; go_ret2; exact ⟨done 7 HE.out, rfl⟩)
      | 8, _, hlt, HE => (go_wp2_with fail; go_ret2; exact ⟨done 8 HE.out, rfl⟩)
      | 9, _, hlt, HE => (go_wp2_with fail; go_ret2; exact ⟨done 9 HE.out, rfl⟩)
      | 10, _, hlt, HE => (go_wp2_with fail; go_ret2; exact ⟨done 10 HE.out, rfl⟩)
end Go.Proofs.Ytooghdnlaonkaaa
/- Contract of tape.Draw; bitsOf, tapes. -/
namespace Go.Proofs.Ytooghdnlaonkaaa
open Go.RowKit

def ret3 (x u e : Int) : Ending := .returned (.tuple #[.int .i64 x, .int .i64 u, .int .i64 e])
def DrawSaid (l : List Int) (n : Int) (w : World) (e : Ending) (w' : World) : Prop :=
  w = w' ∧ ((¬ (1 ≤ n ∧ n ≤ 1024) ∧ e = ret3 0 0 1) ∨ (1 ≤ n ∧ n ≤ 1024 ∧ ((∃ (x : Int) (u : Nat), drawR (bitsN n.toNat) n l 0 = some (x, u) ∧ e = ret3 x u 0) ∨ (drawR (bitsN n.toNat) n l 0 = none ∧ e = ret3 0 0 6))))
theorem u8Elem : Try.prog.elem 69 = 5 := by kernel_rfl
theorem u8Size : (Try.prog.info? 5).map (fun i => i.size) = some 1 := by kernel_rfl
theorem tpBits_no (n : Int) (w : World) (h : ¬ (1 ≤ n ∧ n ≤ 1024)) :
    Calls Try.prog 128 #[.int .i64 n] w fun e w' => e = .returned (.tuple #[.int .i64 0, .int .i64 1]) ∧ w = w' := by
  by_cases h1 : n < 1
  · clear h
    go_enter Try.func128, Try.ntmps128
    go_wp2_with fail
    go_ret2
    exact ⟨rfl, rfl⟩
  · have h2 : 1024 < n := by omega
    clear h
    go_enter Try.func128, Try.ntmps128
    go_wp2_with fail
    go_ret2
    exact ⟨rfl, rfl⟩
theorem pow_10 : ∀ j, j ≤ 10 → 2 ^ j ≤ 1024 := by decide

set_option maxRecDepth 100000 in
set_option maxHeartbeats 2000000 in
theorem tpDraw (l : List Int) (m : Nat) (a : Option Addr) (cap : Nat) (n : Int) (w : World) (h : Sa w a (byts l)) (hm : l.length = m) (hp : Bit01 l) (hl : m ≤ 200) (hc : m ≤ cap) :
    Calls Try.prog 86 #[.slice a m cap, .int .i64 n] w (DrawSaid l n w) := by
  have HM := Lib.hid hm; have HS := Lib.hid h; have HP := Lib.hid hp
  clear hm h hp
  by_cases hn : 1 ≤ n ∧ n ≤ 1024
  · have HNN := Lib.hid hn
    obtain ⟨n1, n2⟩ := hn
    obtain ⟨k1, k2, k3⟩ := bitsN_spec n.toNat (by omega)
    go_enter Try.func86, Try.ntmps86
    go_wp2_with fail
    refine (tpChk l m _ _ _ HS.out HM.out HP.out hl).mono ?_; rintro e w' ⟨rfl, rfl⟩
    go_wp2_with fail
    refine (tpBits n _ n1 n2).mono ?_; rintro e w' ⟨rfl, rfl⟩
    obtain ⟨k, hk⟩ : ∃ k, bitsN n.toNat = k := ⟨_, rfl⟩
    rw [hk] at k2 ⊢
    have HK := Lib.hid hk
    clear k1 k3 hk
    go_wp2_with fail
    go_loop [10] (fun i => ∃ p : Nat, p ≤ m ∧ i = .int .i64 p ∧ Hid (drawR k n l 0 = drawR k n (l.drop p) p)) (fun i => m - (intOf i).toNat)
    case atStart => exact ⟨0, by omega, rfl, Lib.hid (by rw [List.drop_zero])⟩
    case round =>
      obtain ⟨p, hpm, rfl, HD⟩ := hrel
      have hlen : (l.drop p).length = m - p := by rw [List.length_drop, HM.out]
      have HLEN := Lib.hid hlen; clear hlen
      by_cases hle : p + k ≤ m
      · obtain ⟨ad', cp', hsl, hsa, hcp⟩ := slice_midT 69 5 Try.underlying69 u8Elem u8Size a m cap p k hle hc (byts l) (by rw [byts_len, HM.out])
        have hs1 := hsa _ HS.out
        rw [byts_drop, byts_take] at hs1
        have HS1 := Lib.hid hs1
        have HQ : Hid (((l.drop p).take k).length = k) := Lib.hid (by rw [List.length_take, HLEN.out]; omega)
        have HB := Lib.hid ((HP.out.drop p))
        clear hsa hs1
        go_wp2_with fail
        clear hsl
        go_loop [11, 43] (fun x i => ∃ j : Nat, j ≤ k ∧ i = .int .i64 j ∧ x = .int .i64 (valL ((l.drop p).take j))) (fun _ i => k - (intOf i).toNat)
        case atStart => exact ⟨0, by omega, rfl, rfl⟩
        case round =>
          obtain ⟨j, hj, rfl, rfl⟩ := hrel
          by_cases hlt : j < k
          · obtain ⟨b, off, rfl, hb, hcell⟩ := HS1.out.byt j (by rw [HQ.out]; exact hlt)
            rw [nth_take _ _ _ hlt] at hcell
            obtain ⟨p1, p2⟩ := HB.out (nth (l.drop p) j) (nth_mem _ _ (by rw [HLEN.out]; omega))
            obtain ⟨v1, v2⟩ := valL_bd j (l.drop p) HB.out (by rw [HLEN.out]; omega)
            have v3 := pow_10 j (by omega)
            have v4 : valL ((l.drop p).take j) < 1024 := by omega
            have hs := Lib.hid (show valL ((l.drop p).take (j + 1)) = _ from by rw [take_nth _ j (by rw [HLEN.out]; omega), valL_snoc])
            obtain ⟨x, hx⟩ : ∃ x, nth (l.drop p) j = x := ⟨_, rfl⟩
            obtain ⟨V, hV⟩ : ∃ V, valL ((l.drop p).take j) = V := ⟨_, rfl⟩
            rw [hx] at hcell p1 p2
            rw [hV] at v1 v4 ⊢
            have HX := Lib.hid hx; have HV := Lib.hid hV
            clear hx hV v2 v3
            go_wp2_with fail
            exact ⟨⟨j + 1, by omega, by simp, by rw [hs.out, HX.out, HV.out]⟩, by simp only [intOf]; omega⟩
          · obtain rfl : j = k := by omega
            have hyes := drawR_yes j n (l.drop p) p (by rw [HLEN.out]; omega)
            have hno := fun hk => drawR_no j n (l.drop p) p hk (by rw [HLEN.out]; omega)
            have hz : j = 0 → valL ((l.drop p).take j) = 0 := fun h => by subst h; rfl
            obtain ⟨V, hV⟩ : ∃ V, valL ((l.drop p).take j) = V := ⟨_, rfl⟩
            rw [hV] at hyes hno hz ⊢
            clear hV
            by_cases hvn : V < n
            · have HY := Lib.hid (hyes hvn)
              clear hyes hno hz
              go_wp2_with fail
              go_ret3
              exact ⟨rfl, .inr ⟨HNN.out.1, HNN.out.2, .inl ⟨V, p + j, by rw [HK.out, HD.out, HY.out], rfl⟩⟩⟩
            · have j0 : 0 < j := by
                rcases Nat.eq_zero_or_pos j with h | h
                · have := hz h; omega
                · exact h
              have HY := Lib.hid (hno j0 hvn)
              clear hyes hno hz
              go_wp2_with fail
              refine ⟨⟨p + j, by omega, by simp, Lib.hid ?_⟩, by simp only [intOf]; omega⟩
              rw [HD.out, HY.out, List.drop_drop]
      · have HY := Lib.hid (drawR_short k n (l.drop p) p (by rw [HLEN.out]; omega))
        go_wp2_with fail
        go_ret3
        exact ⟨rfl, .inr ⟨HNN.out.1, HNN.out.2, .inr ⟨by rw [HK.out, HD.out, HY.out], rfl⟩⟩⟩
  · go_enter Try.func86, Try.ntmps86
    go_wp2_with fail
    refine (tpChk l m _ _ _ HS.out HM.out HP.out hl).mono ?_; rintro e w' ⟨rfl, rfl⟩
    go_wp2_with fail
    refine (tpBits_no n _ hn).mono ?_; rintro e w' ⟨rfl, rfl⟩
    go_wp2_with fail
    go_ret3
    exact ⟨rfl, .inl ⟨hn, rfl⟩⟩

theorem tapes_any (w : World) : Calls Try.prog 35 #[] w fun e w' => e = .returned (.bool true) ∧ Below w.heap.size w w' := by
  have HP := Lib.hid (show Bit01 [1, 0, 1, 0] from by unfold Bit01; decide)
  have e1 : drawR (bitsN (6 : Int).toNat) 6 [1, 0, 1, 0] 0 = some (5, 3) := by decide
  have E1 := Lib.hid e1; clear e1
  go_enter Try.func35, Try.ntmps35
  go_wp2_with fail
  have F1 := (Fr.start w).new 5 #[.int .u8 1, .int .u8 0, .int .u8 1, .int .u8 0] (byts [1, 0, 1, 0]) rfl 4 rfl (by omega)
  refine (tpDraw [1, 0, 1, 0] 4 _ _ 6 _ (F1.get 0 rfl) rfl HP.out (by omega) (by omega)).mono ?_; rintro e w' ⟨rfl, he⟩
  rw [E1.out] at he
  rcases he with ⟨he, _⟩ | ⟨_, _, ⟨x, u, he, rfl⟩ | ⟨he, _⟩⟩
  · omega
  · simp only [Option.some.injEq, Prod.mk.injEq] at he
    obtain ⟨rfl, rfl⟩ := he
    unfold ret3
    go_wp2_with fail
    go_ret
    exact ⟨rfl, F1.bel⟩
  · cases he

def MadeBy (l : List Int) (w : World) (e : Ending) (w' : World) : Prop :=
  ∃ (ad : Option Addr) (n cp : Nat), e = .returned (.slice ad n cp) ∧ l.length = n ∧ n ≤ cp ∧ Fr w w' [⟨5, .slice ad n cp, byts l⟩]
def bitsL (l : List Int) (t : Nat) : List Int := (l.take t).map (· % 2)
theorem bitsL_01 (l : List Int) (t : Nat) : Bit01 (bitsL l t) := fun x hx => by
  simp only [bitsL, List.mem_map] at hx
  obtain ⟨y, _, rfl⟩ := hx
  omega

end Go.Proofs.Ytooghdnlaonkaaa
