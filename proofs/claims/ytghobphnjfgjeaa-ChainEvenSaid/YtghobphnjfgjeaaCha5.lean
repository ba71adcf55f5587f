/- Contract of chain.Even. -/
import Derived.Test.YtghobphnjfgjeaaCha3
namespace Go.Proofs.Ytghobphnjfgjeaa
open Go.RowKit

def EvenSaid (M : List (List Int)) (l : List Int) (n : Nat) (b : Bool) (er : Int) : Prop :=
  (er ≠ 0 ∧ b = false ∧ (chkC M = er ∨ (er = 3 ∧ l.length ≠ n) ∨ (er = 1 ∧ l.length = n ∧ ∃ k, k < n ∧ (nth l k < 0 ∨ 1000000000 < nth l k)))) ∨
  (er = 0 ∧ chkC M = 0 ∧ l.length = n ∧ (∀ k, k < n → 0 ≤ nth l k ∧ nth l k ≤ 1000000000) ∧
    ((b = true ∧ ∀ i, i < n → ∀ k, k < n → nth l i * mt M i k = nth l k * mt M k i) ∨ (b = false ∧ ∃ i k, i < n ∧ k < n ∧ nth l i * mt M i k ≠ nth l k * mt M k i)))
def EvenPost (M : List (List Int)) (l : List Int) (n : Nat) (w : World) (e : Ending) (w' : World) : Prop := ∃ b er, e = .returned (.tuple #[.bool b, .int .i64 er]) ∧ EvenSaid M l n b er ∧ Fr w w' []
set_option maxRecDepth 100000 in
set_option maxHeartbeats 8000000 in
theorem chaEven (R : List Rw) (l : List Int) (n ll : Nat) (a b : Option Addr) (ca cb : Nat) (w : World) (h : Mx w a R) (hn : R.length = n) (hl : ∀ p ∈ R, p.2.2.length ≤ maxLen) (hs : Sa w b (ints l)) (hll : l.length = ll) :
    Calls Try.prog 33 #[.slice a n ca, .slice b ll cb] w (EvenPost (mOf R) l n w) := by
  have HS := Lib.hid h; have HN := Lib.hid hn; have HL := Lib.hid hl; have HB := Lib.hid hs; have HLL := Lib.hid hll
  have hm : (mOf R).length = n := by simp [mOf, hn]
  have HM := Lib.hid hm
  clear h hn hl hm hs hll
  by_cases he : chkC (mOf R) ≠ 0
  · obtain ⟨er, her⟩ : ∃ er, chkC (mOf R) = er := ⟨_, rfl⟩
    rw [her] at he
    have HE := Lib.hid her
    have z : (er != 0) = true := by rw [bne_iff_ne]; exact he
    clear her
    go_enter Try.func33, Try.ntmps33
    go_wp2_with fail
    refine (chaChk R n _ _ _ HS.out HN.out HL.out).mono ?_; rintro e w' ⟨rfl, rfl⟩
    rw [HE.out]
    go_wp2_with fail
    go_ret2
    exact ⟨false, er, rfl, .inl ⟨he, rfl, .inl HE.out⟩, Fr.start _⟩
  have he : chkC (mOf R) = 0 := by omega
  have hok := chkC_ok he
  rw [HM.out] at hok
  have n1 := hok.n1
  have n5 := hok.n5
  have HE := Lib.hid he; have HK := Lib.hid hok
  clear he hok
  by_cases hq : ll ≠ n
  · have g1 : ((ll : Int) != (n : Int)) = true := by rw [bne_iff_ne]; omega
    have HQ := Lib.hid hq
    clear hq
    go_enter Try.func33, Try.ntmps33
    go_wp2_with fail
    refine (chaChk R n _ _ _ HS.out HN.out HL.out).mono ?_; rintro e w' ⟨rfl, rfl⟩
    rw [HE.out]
    go_wp2_with fail
    go_ret2
    exact ⟨false, 3, rfl, .inl ⟨by decide, rfl, .inr (.inl ⟨rfl, by rw [HLL.out]; exact HQ.out⟩)⟩, Fr.start _⟩
  obtain rfl : ll = n := by omega
  clear hq
  have g1 : ((ll : Int) != (ll : Int)) = false := by simp
  go_enter Try.func33, Try.ntmps33
  go_wp2_with fail
  refine (chaChk R ll _ _ _ HS.out HN.out HL.out).mono ?_; rintro e w' ⟨rfl, rfl⟩
  rw [HE.out]
  go_wp2_with fail
  clear g1
  go_loop [25] (fun i => ∃ c : Nat, c ≤ ll ∧ i = .int .i64 c ∧ Hid (∀ j, j < c → 0 ≤ nth l j ∧ nth l j ≤ 1000000000)) (fun i => ll - (intOf i).toNat)
  case atStart => exact ⟨0, by omega, rfl, Lib.hid (fun j hj => by omega)⟩
  case round =>
    obtain ⟨c, hc, rfl, HG⟩ := hrel
    by_cases hlt : c < ll
    · obtain ⟨b2, o2, rfl, hb2, cx⟩ := HB.out.int c (by rw [HLL.out]; exact hlt)
      have hbad : (nth l c < 0 ∨ 1000000000 < nth l c) → EvenSaid (mOf R) l ll false 1 := fun hb => .inl ⟨by decide, rfl, .inr (.inr ⟨rfl, HLL.out, c, hlt, hb⟩)⟩
      have hgood : 0 ≤ nth l c → nth l c ≤ 1000000000 → ∀ j, j < c + 1 → 0 ≤ nth l j ∧ nth l j ≤ 1000000000 := fun h1 h2 j hj => by
        by_cases e : j = c
        · rw [e]; exact ⟨h1, h2⟩
        · exact HG.out j (by omega)
      obtain ⟨x, hx⟩ : ∃ x, nth l c = x := ⟨_, rfl⟩
      rw [hx] at cx hbad hgood
      have i1 : (0 : Int) ≤ (c : Int) := by omega
      have i2 : (c : Int) < (ll : Int) := by omega
      clear hx
      by_cases b1 : x < 0
      · have f1 : decide (x < 0) = true := decide_eq_true b1
        have HX := Lib.hid (hbad (.inl b1))
        clear hbad hgood
        go_wp2_with fail
        go_ret2
        exact ⟨false, 1, rfl, HX.out, Fr.start _⟩
      have f1 : decide (x < 0) = false := decide_eq_false b1
      by_cases b2 : 1000000000 < x
      · have f2 : decide (1000000000 < x) = true := decide_eq_true b2
        have HX := Lib.hid (hbad (.inr b2))
        clear hbad hgood
        go_wp2_with fail
        go_ret2
        exact ⟨false, 1, rfl, HX.out, Fr.start _⟩
      have f2 : decide (1000000000 < x) = false := decide_eq_false b2
      have HX := Lib.hid (hgood (by omega) (by omega))
      clear hbad hgood
      go_wp2_with fail
      exact ⟨⟨c + 1, by omega, by simp, HX⟩, by simp only [intOf]; omega⟩
    · obtain rfl : c = ll := by omega
      go_wp2_with fail
      have HF0 := Lib.hid (Fr.start w)
      have HW : Hid (∃ wo : World, wo = w) := Lib.hid ⟨_, rfl⟩
      go_loopw [38] (fun i wr => ∃ k : Nat, k ≤ c ∧ i = .int .i64 k ∧ Hid (∀ i, i < k → ∀ j, j < c → nth l i * mt (mOf R) i j = nth l j * mt (mOf R) j i) ∧ Hid (Fr w wr [])) (fun i _ => c - (intOf i).toNat)
      case atStart => exact ⟨0, by omega, rfl, Lib.hid (fun i hi => by omega), HF0⟩
      case round =>
        clear HF0
        obtain ⟨k, hk, rfl, HA, HF⟩ := hrel
        by_cases hlt1 : k < c
        · have hMx := HS.out.keep HF.out.bel
          obtain ⟨b0, o0, A2, C2, l2, rfl, hb0, hl2, hc2, hs2⟩ := hMx.at k (by rw [HN.out]; exact hlt1)
          have ll2 : l2.length = c := by rw [hl2]; exact HK.out.row k hlt1
          rw [ll2] at hc2
          have HL2 := Lib.hid hl2; have HQ2 := Lib.hid ll2
          have hs2w : ∀ w', Fr w w' [] → Sa w' A2 (ints l2) := fun w' hf => by
            have hrow := HS.out.row (R.getD k rw0) (by rw [List.getD_eq_getElem?_getD, List.getElem?_eq_getElem (by rw [HN.out]; exact hlt1)]; exact List.getElem_mem _)
            obtain ⟨b9, o9, e9, hb9, hc9⟩ := HS.out.sa.at k (by rw [List.length_map, HN.out]; exact hlt1)
            simp only [Option.some.injEq, Addr.mk.injEq] at e9
            obtain ⟨q1, q2, _⟩ := e9
            rw [q1, q2] at hc2
            rw [HF.out.bel.cell hb9, hc9, List.getElem?_map, List.getElem?_eq_getElem (by rw [HN.out]; exact hlt1)] at hc2
            have e1 : (R.getD k rw0) = R[k]'(by rw [HN.out]; exact hlt1) := by rw [List.getD_eq_getElem?_getD, List.getElem?_eq_getElem (by rw [HN.out]; exact hlt1)]; rfl
            simp only [Option.map_some, Option.some.injEq, rv, Value.slice.injEq] at hc2
            rw [e1] at hrow
            rw [hl2, mOf_get R k (by rw [HN.out]; exact hlt1), e1, ← hc2.1]
            exact hrow.keep hf.bel
          have HS2 := Lib.hid hs2w
          have i1 : (0 : Int) ≤ (k : Int) := by omega
          have i2 : (k : Int) < (c : Int) := by omega
          clear hMx hl2 ll2 hs2 hs2w
          go_wp2_with fail
          obtain ⟨wo, hwo⟩ : ∃ wo : World, wo = wr := ⟨_, rfl⟩
          subst hwo
          go_loopw [45] (fun i wr => ∃ j : Nat, j ≤ c ∧ i = .int .i64 j ∧ Hid (∀ m, m < j → nth l k * mt (mOf R) k m = nth l m * mt (mOf R) m k) ∧ Hid (Fr w wr [])) (fun i _ => c - (intOf i).toNat)
          case atStart => exact ⟨0, by omega, rfl, Lib.hid (fun i hi => by omega), HF⟩
          case round =>
            clear HF
            obtain ⟨j, hj, rfl, HJ, HF⟩ := hrel
            by_cases hlt2 : j < c
            · obtain ⟨b1, o1, A1, C1, l1, e, hb1, hl1, hc1, hs1⟩ := (HS.out.keep HF.out.bel).at j (by rw [HN.out]; exact hlt2)
              cases e
              have ll1 : l1.length = c := by rw [hl1]; exact HK.out.row j hlt2
              rw [ll1] at hc1
              obtain ⟨b2, o2, rfl, hb2, cx⟩ := (HS2.out _ HF.out).int j (by rw [HQ2.out]; exact hlt2)
              obtain ⟨b3, o3, rfl, hb3, cy⟩ := hs1.int k (by rw [ll1]; exact hlt1)
              obtain ⟨b4, o4, rfl, hb4, cl1⟩ := (HF.out.old HB.out).int k (by rw [HLL.out]; exact hlt1)
              obtain ⟨_, _, e, _, cl2⟩ := (HF.out.old HB.out).int j (by rw [HLL.out]; exact hlt2)
              cases e
              rw [show nth l2 j = mt (mOf R) k j by rw [HL2.out]; rfl] at cx
              rw [show nth l1 k = mt (mOf R) j k by rw [hl1]; rfl] at cy
              have bx := HK.out.bd k j
              have by_ := HK.out.bd j k
              have t1 := HG.out k hlt1
              have t2 := HG.out j hlt2
              have hsame : nth l k * mt (mOf R) k j = nth l j * mt (mOf R) j k → ∀ m, m < j + 1 → nth l k * mt (mOf R) k m = nth l m * mt (mOf R) m k := fun h m hm => by
                by_cases e : m = j
                · rw [e]; exact h
                · exact HJ.out m (by omega)
              have hother : nth l k * mt (mOf R) k j ≠ nth l j * mt (mOf R) j k → EvenSaid (mOf R) l c false 0 := fun h => .inr ⟨rfl, HE.out, HLL.out, HG.out, .inr ⟨rfl, k, j, hlt1, hlt2, h⟩⟩
              obtain ⟨X, hX⟩ : ∃ X, mt (mOf R) k j = X := ⟨_, rfl⟩
              obtain ⟨Y, hY⟩ : ∃ Y, mt (mOf R) j k = Y := ⟨_, rfl⟩
              obtain ⟨P, hP⟩ : ∃ P, nth l k = P := ⟨_, rfl⟩
              obtain ⟨Q, hQ⟩ : ∃ Q, nth l j = Q := ⟨_, rfl⟩
              rw [hX, hY, hP, hQ] at hother
              have hsame2 : P * X = Q * Y → ∀ m, m < j + 1 → nth l k * mt (mOf R) k m = nth l m * mt (mOf R) m k := fun h => hsame (by rw [hX, hY, hP, hQ]; exact h)
              rw [hX] at cx bx
              rw [hY] at cy by_
              rw [hP] at cl1 t1
              rw [hQ] at cl2 t2
              have p0 : 0 ≤ P * X := Int.mul_nonneg t1.1 bx.1
              have p1 : P * X ≤ 1000000000 * 20 := Int.mul_le_mul t1.2 bx.2 bx.1 (by omega)
              have q0 : 0 ≤ Q * Y := Int.mul_nonneg t2.1 by_.1
              have q1 : Q * Y ≤ 1000000000 * 20 := Int.mul_le_mul t2.2 by_.2 by_.1 (by omega)
              obtain ⟨U, hU⟩ : ∃ U, P * X = U := ⟨_, rfl⟩
              obtain ⟨V, hV⟩ : ∃ V, Q * Y = V := ⟨_, rfl⟩
              rw [hU] at hother p0 p1 hsame2
              rw [hV] at hother q0 q1 hsame2
              have i3 : (0 : Int) ≤ (j : Int) := by omega
              have i4 : (j : Int) < (c : Int) := by omega
              clear hsame hl1 ll1 hs1 hX hY hP hQ
              by_cases hUV : U = V
              · have HA2 := Lib.hid (hsame2 hUV)
                have g2 : (U != V) = false := by rw [bne_eq_false_iff_eq]; exact hUV
                clear hsame2 hother hUV
                go_wp2_with fail
                go_quiet (fail)
                go_wp2_with fail
                exact ⟨⟨j + 1, by omega, by simp, HA2, Lib.hid (HF.out.drewN _)⟩, by simp only [intOf]; omega⟩
              · have HA2 := Lib.hid (hother hUV)
                have g2 : (U != V) = true := by rw [bne_iff_ne]; exact hUV
                clear hsame2 hother hUV
                go_wp2_with fail
                go_quiet (fail)
                go_wp2_with fail
                go_ret2
                exact ⟨false, 0, rfl, HA2.out, HF.out.drewN _⟩
            · obtain rfl : j = c := by omega
              have HA2 : Hid (∀ i, i < k + 1 → ∀ m, m < j → nth l i * mt (mOf R) i m = nth l m * mt (mOf R) m i) := Lib.hid (fun i hi => by
                by_cases e : i = k
                · rw [e]; exact HJ.out
                · exact HA.out i (by omega))
              go_wp2_with fail
              exact ⟨⟨k + 1, by omega, by simp, HA2, HF⟩, by simp only [intOf]; omega⟩
        · obtain rfl : k = c := by omega
          go_wp2_with fail
          go_ret2
          exact ⟨true, 0, rfl, .inr ⟨rfl, HE.out, HLL.out, HG.out, .inl ⟨rfl, HA.out⟩⟩, HF.out⟩
end Go.Proofs.Ytghobphnjfgjeaa
