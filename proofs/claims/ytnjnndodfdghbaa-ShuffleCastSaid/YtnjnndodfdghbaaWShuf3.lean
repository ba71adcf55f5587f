/- The walk of the law ShuffleCast. -/
import Derived.Test.YtnjnndodfdghbaaWShuf1
import Derived.Test.YtnjnndodfdghbaaTape3
namespace Go.Proofs.Ytnjnndodfdghbaa
open Go.RowKit

theorem Fr.none' {w0 w : World} {L : List Ent} {i : Nat} {T : TypeId} {ad : Option Addr} {n cap : Nat} {xs : List Value} (h : Fr w0 w L) (he : L[i]? = some ⟨T, .slice ad n cap, xs⟩) : ad = .none → cap = 0 ∧ n = 0 := fun e => by
  have := (h.pick (List.mem_of_getElem? he)).none e
  exact ⟨this.2, this.1⟩
theorem bitsL_len (l : List Int) (t : Nat) : (bitsL l t).length ≤ t := by unfold bitsL; rw [List.length_map, List.length_take]; omega
theorem u8_bd {l : List Int} (h : ∀ x ∈ l, (Lit.int .u8 x).wf = true) : ∀ x ∈ l, 0 ≤ x ∧ x ≤ 255 := fun x hx => by
  have := h x hx
  simp [Lit.wf, go_sem] at this
  have e1 : IntKind.u8.min = 0 := by decide
  have e2 : IntKind.u8.max = 255 := by decide
  omega
/-- 1 .. n -/
def oneTo (n : Nat) : List Int := (List.range n).map fun i : Nat => (i : Int) + 1
theorem oneTo_len (n : Nat) : (oneTo n).length = n := by simp [oneTo]
theorem oneTo_succ (n : Nat) : oneTo (n + 1) = oneTo n ++ [(n : Int) + 1] := by simp [oneTo, List.range_succ]
theorem oneTo_nth (n i : Nat) (h : i < n) : nth (oneTo n) i = (i : Int) + 1 := by simp [nth, oneTo, h]
theorem rowS_bds : ∀ (r l o : List Int) (a : Nat), Bit01 l → rowS r l = .ok (o, a) → ∀ i, i < o.length → 0 ≤ nth o i ∧ nth o i < nth r i
  | [], l, o, a, _, h, i, hi => by
    rw [rowS] at h; simp only [Except.ok.injEq, Prod.mk.injEq] at h
    obtain ⟨rfl, rfl⟩ := h; simp at hi
  | n :: r, l, o, a, hb, h, i, hi => by
    by_cases hn : 1 ≤ n ∧ n ≤ 1024
    · cases hd : drawR (bitsN n.toNat) n l 0 with
      | none => rw [rowS_short n r l hn hd] at h; cases h
      | some p =>
        obtain ⟨x, u⟩ := p
        rw [rowS_ok n r l hn x u hd] at h
        have hx := drawF_bd _ _ _ _ _ _ _ hb hd
        cases hr : rowS r (l.drop u) with
        | error e => rw [hr] at h; cases h
        | ok q =>
          obtain ⟨o', b⟩ := q
          rw [hr] at h
          simp only [comb, Except.ok.injEq, Prod.mk.injEq] at h
          obtain ⟨rfl, rfl⟩ := h
          cases i with
          | zero => simpa [nth] using hx
          | succ i =>
            have := rowS_bds r (l.drop u) o' b (hb.drop u) hr i (by simpa using hi)
            simpa [nth] using this
    · rw [rowS_bad n r l hn] at h; cases h
theorem row_lots {l o : List Int} {n a : Nat} (hb : Bit01 l) (h : rowS (oneTo n) l = .ok (o, a)) : LotOk o ∧ o.length = n := by
  have hl := (rowS_len _ _ _ _ h).1
  rw [oneTo_len] at hl
  refine ⟨fun i hi => ?_, hl⟩
  have := rowS_bds _ _ _ _ hb h i hi
  rw [oneTo_nth n i (by omega)] at this
  omega

def CastSaid (l : List Int) (n : Int) (w : World) (e : Ending) (w' : World) : Prop :=
  (∃ (m : Nat) (o : List Int) (u : Nat) (ad : Option Addr) (cp : Nat), n = m ∧ m ≤ 10 ∧ rowS (oneTo m) l = .ok (o, u) ∧ m ≤ cp ∧ e = .returned (.tuple #[.slice ad m cp, .int .i64 (u : Nat), .int .i64 0]) ∧ Fr w w' [⟨3, .slice ad m cp, ints (dealL o)⟩]) ∨
  (∃ err : Int, err ≠ 0 ∧ (∀ m : Nat, n = m → m ≤ 10 → ∀ o u, rowS (oneTo m) l ≠ .ok (o, u)) ∧ e = .returned (.tuple #[.slice none 0 0, .int .i64 0, .int .i64 err]) ∧ Fr w w' [])

set_option maxRecDepth 100000 in
set_option maxHeartbeats 4000000 in
theorem shCast (l : List Int) (k : Nat) (a : Option Addr) (cap : Nat) (n : Int) (w : World) (h : Sa w a (byts l)) (hk : l.length = k) (hp : Bit01 l) (hl : k ≤ 200) (hc : k ≤ cap) :
    Calls Try.prog 36 #[.slice a k cap, .int .i64 n] w (CastSaid l n w) := by
  have HK := Lib.hid hk; have HS := Lib.hid h; have HP := Lib.hid hp
  clear hk h hp
  by_cases hn : 0 ≤ n ∧ n ≤ 10
  · obtain ⟨m, rfl⟩ : ∃ m : Nat, n = m := ⟨n.toNat, by omega⟩
    have m10 : m ≤ 10 := by omega
    have d1 : decide ((m : Int) < 0) = false := decide_eq_false (by omega)
    have d2 : decide ((10 : Int) < (m : Int)) = false := decide_eq_false (by omega)
    clear hn
    go_enter Try.func36, Try.ntmps36
    go_wp2_with fail
    refine (tpChk l k _ _ _ HS.out HK.out HP.out hl).mono ?_; rintro e w' ⟨rfl, rfl⟩
    go_wp2_with fail
    clear d1 d2
    go_loopw [8, 27] (fun o i wr => ∃ (j : Nat) (ad : Option Addr) (cp : Nat), j ≤ m ∧ i = .int .i64 j ∧ o = .slice ad j cp ∧ Fr w wr [⟨3, .slice ad j cp, ints (oneTo j)⟩]) (fun _ i _ => m - (intOf i).toNat)
    case atStart => exact ⟨0, none, 0, by omega, rfl, rfl, (Fr.start w).nilSlice _⟩
    case round =>
      obtain ⟨j, ad, cp, hj, rfl, rfl, hfr⟩ := hrel
      by_cases hlt : j < m
      · have HF := Lib.hid hfr
        clear hfr
        go_wp2_with (with_reducible refine at_slot 34 ?_; go_must (refine wpList_pushInt rfl _ _ rfl ad j cp _ ((j : Int) + 1) _ rfl HF.out rfl ?_ ?_); rotate_left; intro ad' cp' w3 hf2 hlt2)
        · rw [← oneTo_succ] at hf2
          exact ⟨⟨j + 1, ad', cp', by omega, by simp, rfl, hf2⟩, by simp only [intOf]; omega⟩
        · omega
      · obtain rfl : j = m := by omega
        go_wp2_with fail
        refine (tpRow l (oneTo j) k j _ _ _ _ _ (hfr.old HS.out) (hfr.get 0 rfl) HK.out (oneTo_len j) HP.out hl hc (by omega)).mono ?_; rintro e w3 he
        rcases he with ⟨o, u, ad3, cp3, ho, rfl, hf⟩ | ⟨err, herr, ho, rfl, hf⟩
        · have F3 := hfr.below.call hf
          obtain ⟨lo, ll⟩ := row_lots HP.out ho
          have HO := Lib.hid ho; have LO := Lib.hid lo; have LL := Lib.hid ll
          clear ho lo ll hf hfr
          go_wp2_with fail
          refine (shDeal o j _ _ _ (F3.get 0 rfl) LL.out LO.out m10).mono ?_; rintro e w4 ⟨ad4, cp4, rfl, hc4, hf⟩
          have F4 := F3.below.call hf
          go_wp2_with fail
          go_ret3
          exact .inl ⟨j, o, u, ad4, cp4, rfl, m10, HO.out, hc4, rfl, F4⟩
        · have q : (err != 0) = true := by rw [bne_iff_ne]; omega
          have F3 := hfr.below.keep hf.bel
          have HO : Hid (∀ m : Nat, (j : Int) = m → m ≤ 10 → ∀ o u, rowS (oneTo m) l ≠ .ok (o, u)) := Lib.hid fun m hm _ o u h => by
            obtain rfl : m = j := by omega
            rw [ho] at h; cases h
          clear ho
          go_wp2_with fail
          go_ret3
          exact .inr ⟨err, by omega, HO.out, rfl, F3⟩
  · by_cases h0 : n < 0
    · have d1 : decide (n < 0) = true := decide_eq_true h0
      clear hn
      go_enter Try.func36, Try.ntmps36
      go_wp2_with fail
      refine (tpChk l k _ _ _ HS.out HK.out HP.out hl).mono ?_; rintro e w' ⟨rfl, rfl⟩
      go_wp2_with fail
      go_ret3
      exact .inr ⟨1, by omega, fun m hm _ => by omega, rfl, Fr.start w⟩
    · have d1 : decide (n < 0) = false := decide_eq_false h0
      have d2 : decide (10 < n) = true := decide_eq_true (by omega)
      have hn10 : 10 < n := by omega
      clear hn h0
      go_enter Try.func36, Try.ntmps36
      go_wp2_with fail
      refine (tpChk l k _ _ _ HS.out HK.out HP.out hl).mono ?_; rintro e w' ⟨rfl, rfl⟩
      go_wp2_with fail
      go_ret3
      exact .inr ⟨1, by omega, fun m hm hm2 => by omega, rfl, Fr.start w⟩

set_option maxRecDepth 100000 in
set_option maxHeartbeats 8000000 in
theorem shuffleCast_any (x : List Int) (n : Nat) (a : Option Addr) (ca : Nat) (d : Int) (w : World) (h : Sa w a (byts x)) (hn : x.length = n) (hc : n ≤ ca) (hx : n ≤ maxLen) (hb : ∀ z ∈ x, 0 ≤ z ∧ z ≤ 255) :
    Calls Try.prog 10 #[.slice a n ca, .int .i64 d] w fun e w' => e = .returned (.bool true) ∧ Below w.heap.size w w' := by
  have HN := Lib.hid hn; have HS := Lib.hid h; have HX := Lib.hid hx; have HB := Lib.hid hb
  have HQ := Lib.hid (show Bit01 [0, 1, 0] from by unfold Bit01; decide)
  have HR := Lib.hid (show rowS (oneTo 3) [0, 1, 0] = .ok ([0, 0, 2], 3) from by kernel_rfl)
  have hd3 : dealL [0, 0, 2] = [1, 0, 2] := by decide
  have HD3 := Lib.hid hd3
  have hne : decide (([1, 0, 2] : List Int) = [0, 1, 2]) = false := by decide
  have HNE := Lib.hid hne
  clear hn h hx hb hd3 hne
  go_enter Try.func10, Try.ntmps10
  go_wp2_with fail
  have F0 := (Fr.start w).new 5 #[.int .u8 0, .int .u8 1, .int .u8 0] (byts [0, 1, 0]) rfl 3 rfl (by omega)
  refine (shCast [0, 1, 0] 3 _ _ 3 _ (F0.get 0 rfl) rfl HQ.out (by omega) (by omega)).mono ?_; rintro e w1 he
  rcases he with ⟨m, o, u, ad, cp, hm, m10, ho, hcp, rfl, hf⟩ | ⟨err, herr, hno, rfl, hf⟩
  · obtain rfl : m = 3 := by omega
    rw [HR.out] at ho
    simp only [Except.ok.injEq, Prod.mk.injEq] at ho
    obtain ⟨rfl, rfl⟩ := ho
    rw [HD3.out] at hf
    have F2 := F0.below.call hf
    clear F0 hf hm
    go_wp2_with fail
    have F3 := F2.lit [0, 1, 2] #[.int .i64 0, .int .i64 1, .int .i64 2] rfl 3 rfl (by omega) 3
    refine (slEqual [1, 0, 2] [0, 1, 2] 3 3 _ _ _ _ _ (F3.get 1 rfl) (F3.get 0 rfl) rfl rfl (by omega) (by omega)).mono ?_; rintro e w2 ⟨rfl, hf⟩
    rw [HNE.out]
    have F4 := F3.below.keep hf.bel
    clear F2 F3 hf
    go_wp2_with fail
    refine (bitsOf_any x n _ _ 200 _ (F4.old HS.out) HN.out hc HX.out (by omega) HB.out).mono ?_; rintro e w4 ⟨ad1, n1, cp1, rfl, hn1, hc1, hf⟩
    have F5 := F4.call hf
    clear F4 hf
    have P1 := Lib.hid (bitsL_01 x 200)
    have m1 := bitsL_len x 200
    rw [hn1] at m1
    have HN1 := Lib.hid hn1
    clear hn1
    generalize bitsL x 200 = lx at *
    go_wp2_with fail
    refine (shCast lx n1 _ _ d _ (F5.get 0 rfl) HN1.out P1.out m1 hc1).mono ?_; rintro e w5 he
    rcases he with ⟨m, o, u, ad5, cp5, rfl, m10, ho, hc5, rfl, hf⟩ | ⟨err, herr, hno, rfl, hf⟩
    · have F6 := F5.call hf
      obtain ⟨lo, ll⟩ := row_lots P1.out ho
      obtain ⟨dl, dp⟩ := dealL_ok o lo
      rw [ll] at dl
      have ld := lots_deal o lo o.length (Nat.le_refl _)
      rw [List.take_length, ll] at ld
      rw [show dealK o m = dealL o from by rw [dealL, ll]] at ld
      have HO := Lib.hid ho; have LL := Lib.hid ll; have DL := Lib.hid dl; have DP := Lib.hid dp; have LD := Lib.hid ld
      have d1 : decide ((m : Int) < 0) = false := decide_eq_false (by omega)
      have u200 := (rowS_len _ _ _ _ ho).2
      rw [HN1.out] at u200
      clear ho lo ll dl dp ld hf F5
      go_wp2_with fail
      refine (shLots (dealL o) m _ _ _ (F6.get 0 rfl) DL.out DP.out m10).mono ?_; rintro e w6 ⟨ad6, cp6, rfl, hc6, hf⟩
      rw [LD.out] at hf
      have F7 := F6.call hf
      clear F6 hf
      go_wp2_with fail
      go_loopw [14, 74] (fun oo i wr => ∃ (j : Nat) (ad : Option Addr) (cp : Nat), j ≤ m ∧ i = .int .i64 j ∧ oo = .slice ad j cp ∧ Fr w wr [⟨3, .slice ad j cp, ints (oneTo j)⟩, ⟨3, .slice ad6 m cp6, ints o⟩, ⟨5, .slice ad1 n1 cp1, byts lx⟩]) (fun _ i _ => m - (intOf i).toNat)
      case atStart => exact ⟨0, none, 0, by omega, rfl, rfl, (F7.sub (by simp)).nilSlice _⟩
      case round =>
        obtain ⟨j, ad, cp, hj, rfl, rfl, hfr⟩ := hrel
        clear F7
        by_cases hlt : j < m
        · have HF := Lib.hid hfr
          clear hfr
          go_wp2_with (with_reducible refine at_slot 81 ?_; go_must (refine wpList_pushInt rfl _ _ rfl ad j cp _ ((j : Int) + 1) _ rfl HF.out rfl ?_ ?_); rotate_left; intro ad' cp' w3 hf2 hlt2)
          · rw [← oneTo_succ] at hf2
            exact ⟨⟨j + 1, ad', cp', by omega, by simp, rfl, hf2⟩, by simp only [intOf]; omega⟩
          · omega
        · obtain rfl : j = m := by omega
          go_wp2_with fail
          refine (tpRow lx (oneTo j) n1 j _ _ _ _ _ (hfr.get 2 rfl) (hfr.get 0 rfl) HN1.out (oneTo_len j) P1.out m1 hc1 (by omega)).mono ?_; rintro e w7 he
          rcases he with ⟨o', u', ad7, cp7, ho', rfl, hf⟩ | ⟨err, _, ho', _⟩
          · rw [HO.out] at ho'
            simp only [Except.ok.injEq, Prod.mk.injEq] at ho'
            obtain ⟨rfl, rfl⟩ := ho'
            have F8 := hfr.call hf
            clear hfr hf
            go_wp2_with fail
            refine (good2b _ w7.heap.size _ rfl).mono ?_; rintro e w' ⟨rfl, rfl⟩
            have F9 := F8.alloc (.cells #[.int .i64 0, .int .i64 0] 23)
            clear F8
            have q1 : ((u : Int) == (u : Int)) = true := beq_self_eq_true _
            go_wp2_with fail
            refine (slEqual o o j j _ _ _ _ _ (F9.get 2 rfl) (F9.get 0 rfl) LL.out LL.out (by omega) (by omega)).mono ?_; rintro e w8 ⟨rfl, hf⟩
            have F10 := F9.keep hf.bel
            rw [decide_eq_true (rfl : o = o)]
            go_wp2_with fail
            go_ret
            exact ⟨rfl, F10.bel⟩
          · rw [HO.out] at ho'; cases ho'
    · have q : (err != 0) = true := by rw [bne_iff_ne]; exact herr
      have F6 := F5.keep hf.bel
      go_wp2_with fail
      go_ret
      exact ⟨rfl, F6.bel⟩
  · exact absurd HR.out (hno 3 rfl (by omega) _ _)
end Go.Proofs.Ytnjnndodfdghbaa
