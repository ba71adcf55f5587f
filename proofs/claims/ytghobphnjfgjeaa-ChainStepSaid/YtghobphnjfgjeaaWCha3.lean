/- The walk of the law ChainStays. -/
import Derived.Test.YtghobphnjfgjeaaCha4
import Derived.Test.YtghobphnjfgjeaaFB
namespace Go.Proofs.Ytghobphnjfgjeaa
open Go.RowKit

set_option maxRecDepth 100000 in
set_option maxHeartbeats 1000000 in
theorem slEqR (l : List Int) (n : Nat) (a b : Option Addr) (ca cb : Nat) (w : World) (h : Sa w a (ints l)) (h' : Sa w b (ints l)) (hn : l.length = n * 2) (hl : n ≤ 1000000) :
    Calls Try.prog 39 #[.slice a n ca, .slice b n cb] w fun e w' => e = .returned (.bool true) ∧ Below w.heap.size w w' := by
  have HN := Lib.hid hn; have HA := Lib.hid h; have HB := Lib.hid h'
  have hne : (((n : Nat) : Int) != ((n : Nat) : Int)) = false := by simp
  clear hn h h'
  go_enter Try.func39, Try.ntmps39
  go_wp2_with fail
  clear hne
  go_loopw [13] (fun i wr => ∃ j : Nat, j ≤ n ∧ i = .int .i64 j ∧ Hid (Fr w wr [])) (fun i _ => n - (intOf i).toNat)
  case atStart => exact ⟨0, by omega, rfl, Lib.hid (Fr.start w)⟩
  case round =>
    obtain ⟨j, hj, rfl, HF⟩ := hrel
    by_cases hlt : j < n
    · obtain ⟨b1, o1, rfl, hb1, c1⟩ := (HF.out.old HA.out).int (j * 2) (by rw [HN.out]; omega)
      obtain ⟨_, _, e, _, c2⟩ := (HF.out.old HA.out).int (j * 2 + 1) (by rw [HN.out]; omega)
      cases e
      obtain ⟨b2, o2, rfl, hb2, c3⟩ := (HF.out.old HB.out).int (j * 2) (by rw [HN.out]; omega)
      obtain ⟨_, _, e, _, c4⟩ := (HF.out.old HB.out).int (j * 2 + 1) (by rw [HN.out]; omega)
      cases e
      rw [← Nat.add_assoc] at c2 c4
      obtain ⟨x, hx⟩ : ∃ x, nth l (j * 2) = x := ⟨_, rfl⟩
      obtain ⟨y, hy⟩ : ∃ y, nth l (j * 2 + 1) = y := ⟨_, rfl⟩
      rw [hx] at c1 c3
      rw [hy] at c2 c4
      have i1 : (0 : Int) ≤ (j : Int) := by omega
      have i2 : (j : Int) < (n : Int) := by omega
      clear hx hy
      go_wp2_with fail
      go_quiet (fail)
      go_wp2_with fail
      exact ⟨⟨j + 1, by omega, by simp, Lib.hid (HF.out.drewN _)⟩, by simp only [intOf]; omega⟩
    · go_wp2_with fail
      go_ret
      exact ⟨rfl, HF.out.bel⟩
/-- how often each node is left -/
def ofN (M : List (List Int)) (n i : Nat) : Int := treeT M n i * outA M n i
def ofL (M : List (List Int)) (n k : Nat) : List Int := (List.range k).map fun i => ofN M n i
theorem ofL_succ (M : List (List Int)) (n k : Nat) : ofL M n (k + 1) = ofL M n k ++ [ofN M n k] := by simp [ofL, List.range_succ]
theorem ofL_len (M : List (List Int)) (n k : Nat) : (ofL M n k).length = k := by simp [ofL]
theorem ofL_nth (M : List (List Int)) (n k j : Nat) (h : j < k) : nth (ofL M n k) j = ofN M n j := by simp [nth, ofL, h]
theorem sK_split (f : Nat → Int) (k : Nat) : ∀ n, k < n → sK f n = sK (fun j => if j = k then 0 else f j) n + f k
  | 0, h => by omega
  | n + 1, h => by
    rw [sK, sK]
    by_cases e : n = k
    · subst e
      rw [if_pos rfl, sK_congr (g := f) n (fun j hj => if_neg (by omega))]; omega
    · rw [if_neg e, sK_split f k n (by omega)]; omega
/-- as much comes to a node as is left there -/
theorem stays (M : List (List Int)) (n k : Nat) (h6 : n < 6) (hk : k < n) : sK (fun j => treeT M n j * mt M j k) n = ofN M n k := by
  rw [sK_split _ k n hk, tree_law M n k h6 hk, ofN, outA, sK_split (fun j => mt M k j) k n hk, Int.mul_add]
  rfl
theorem rat_same {X Y X' Y' v D : Int} (hD : 0 < D) (h : Rat1 X Y) (h' : Rat1 X' Y') (e : X * D = v * Y) (e' : X' * D = v * Y') : X = X' ∧ Y = Y' := by
  have k1 := redIs_of (p := v) (q := D) hD (by have := h.1; omega) h.2.2.2.2 (show Eqv v D X Y from e.symm)
  have k2 := redIs_of (p := v) (q := D) hD (by have := h'.1; omega) h'.2.2.2.2 (show Eqv v D X' Y' from e'.symm)
  exact ⟨by rw [← k1.1, k2.1], by rw [← k1.2, k2.2]⟩
theorem row_same {C C' : List Int} {n : Nat} {D : Int} {S S' : Nat → Int} (hD : 0 < D) (h : RowOk C n D S) (h' : RowOk C' n D S') (hs : ∀ k, k < n → S k = S' k) : C = C' := by
  refine ext_nth (by rw [h.len, h'.len]) (fun i hi => ?_)
  rw [h.len] at hi
  have hk : i / 2 < n := by omega
  have := rat_same hD (h.rat _ hk) (h'.rat _ hk) (h.val _ hk) (by rw [h'.val _ hk, hs _ hk])
  rcases Nat.mod_two_eq_zero_or_one i with e | e
  · rw [show i = i / 2 * 2 by omega]; exact this.1
  · rw [show i = i / 2 * 2 + 1 by omega]; exact this.2

set_option maxRecDepth 100000 in
set_option maxHeartbeats 8000000 in
theorem chainStays_any (R : List Rw) (n : Nat) (a : Option Addr) (ca : Nat) (w : World) (h : Mx w a R) (hn : R.length = n) (hl : ∀ p ∈ R, p.2.2.length ≤ maxLen) :
    Calls Try.prog 12 #[.slice a n ca] w fun e w' => e = .returned (.bool true) ∧ Below w.heap.size w w' := by
  have HS := Lib.hid h; have HN := Lib.hid hn; have HL := Lib.hid hl
  clear h hn hl
  go_enter Try.func12, Try.ntmps12
  go_wp2_with fail
  refine (chains_any _).mono ?_; rintro e w0' ⟨rfl, hb⟩
  have HF0 := Lib.hid ((Fr.start w).keep hb)
  clear hb
  go_wp2_with fail
  refine (ratios_any _).mono ?_; rintro e w1 ⟨rfl, hb⟩
  have HF1 := Lib.hid (HF0.out.keep hb)
  clear hb
  go_wp2_with fail
  refine (chaRest R n _ _ _ (HS.out.keep HF1.out.bel) HN.out HL.out).mono ?_; rintro e w2 hx
  rcases hx with ⟨er, h0, h1, rfl, rfl⟩ | ⟨h1, h2, rfl, hf⟩ | ⟨h1, h2, ad, rfl, hf⟩
  · have z : (er != 0) = true := by rw [bne_iff_ne]; exact h0
    clear h1
    go_wp2_with fail
    go_ret
    exact ⟨rfl, HF1.out.bel⟩
  · have HF2 := Lib.hid (HF1.out.call hf)
    clear h1 h2 hf
    go_wp2_with fail
    go_ret
    exact ⟨rfl, HF2.out.bel⟩
  · have HF2 := Lib.hid ((HF1.out.call hf).nilSlice 3)
    have hok := chkC_ok h1
    rw [show (mOf R).length = n by simp [mOf, HN.out]] at hok
    have n1 := hok.n1
    have n5 := hok.n5
    have hnn := fun j => hT_nonneg (mOf R) n j (fun i k => (hok.bd i k).1) n []
    have hle : ∀ j, treeT (mOf R) n j ≤ 10000000000 := fun j => by
      have := hT_le (mOf R) n j (fun i k => (hok.bd i k).1) (fun i k => (hok.bd i k).2) n5 n []
      unfold treeT
      have h5 : n = 1 ∨ n = 2 ∨ n = 3 ∨ n = 4 ∨ n = 5 := by omega
      rcases h5 with rfl | rfl | rfl | rfl | rfl <;> omega
    have hou : ∀ i, 0 ≤ outA (mOf R) n i ∧ outA (mOf R) n i ≤ 100 := fun i => by
      have h1 := sK_nonneg (fun k => mt (mOf R) i k) n (fun k _ => (hok.bd i k).1)
      have h2 := sK_le (fun k => mt (mOf R) i k) 20 n (fun k _ => (hok.bd i k).2)
      unfold outA; omega
    have hof : ∀ i, 0 ≤ ofN (mOf R) n i ∧ ofN (mOf R) n i ≤ 1000000000000 := fun i => by
      have h1 : 0 ≤ ofN (mOf R) n i := Int.mul_nonneg (hnn i) (hou i).1
      have h2 : ofN (mOf R) n i ≤ 10000000000 * 100 := Int.mul_le_mul (hle i) (hou i).2 (hou i).1 (by omega)
      exact ⟨h1, by omega⟩
    have HK := Lib.hid hok; have HNN := Lib.hid hnn; have HLE := Lib.hid hle; have HOU := Lib.hid hou; have HOF := Lib.hid hof; have HC0 := Lib.hid h1
    have z1 : ((n : Int) != (n : Int)) = false := by simp
    clear hf h1 h2 hok hnn hle hou hof
    go_wp2_with fail
    clear z1
    go_loopw [5, 6, 48] (fun s5 s6 s48 wr => ∃ (k : Nat) (A : Int) (od : Option Addr) (oc : Nat), k ≤ n ∧ s48 = .int .i64 k ∧ s5 = .int .i64 A ∧ s6 = .slice od k oc ∧ 0 ≤ A ∧ A ≤ 1000000000000 * (k : Int) ∧ Hid (sK (ofN (mOf R) n) k = A) ∧ Hid (Fr w wr ([⟨3, .slice od k oc, ints (ofL (mOf R) n k)⟩, ⟨3, .slice ad n n, ints (restL (mOf R) n)⟩] ++ []))) (fun _ _ s _ => n - (intOf s).toNat)
    case atStart => exact ⟨0, 0, none, 0, by omega, rfl, rfl, rfl, by omega, by omega, Lib.hid rfl, HF2⟩
    case round =>
      clear HF2
      obtain ⟨k, A, od, oc, hk, rfl, rfl, rfl, A0, A1, HA, HF⟩ := hrel
      by_cases hlt : k < n
      · obtain ⟨b0, o0, A1', C1, l1, rfl, hb0, hl1, hc1, hs1⟩ := (HS.out.keep HF.out.bel).at k (by rw [HN.out]; exact hlt)
        have ll1 : l1.length = n := by rw [hl1]; exact HK.out.row k hlt
        rw [ll1] at hc1
        have hmt : ∀ c, nth l1 c = mt (mOf R) k c := fun c => by rw [hl1]; rfl
        have hst : ofL (mOf R) n (k + 1) = ofL (mOf R) n k ++ [treeT (mOf R) n k * outA (mOf R) n k] := ofL_succ _ _ _
        have hsu : sK (ofN (mOf R) n) (k + 1) = A + treeT (mOf R) n k * outA (mOf R) n k := by rw [← HA.out]; rfl
        have HS1 := Lib.hid hs1; have HLL := Lib.hid ll1; have HMT := Lib.hid hmt; have HST := Lib.hid hst; have HSU := Lib.hid hsu
        have i1 : (0 : Int) ≤ (k : Int) := by omega
        have i2 : (k : Int) < (n : Int) := by omega
        clear hl1 ll1 hs1 hmt hst hsu
        go_wp2_with fail
        clear hc1
        go_loop [9, 55] (fun s9 i => ∃ (c : Nat) (V : Int), c ≤ n ∧ i = .int .i64 c ∧ s9 = .int .i64 V ∧ 0 ≤ V ∧ V ≤ 20 * (c : Int) ∧ Hid (sK (fun c => mt (mOf R) k c) c = V)) (fun _ i => n - (intOf i).toNat)
        case atStart => exact ⟨0, 0, by omega, rfl, rfl, by omega, by omega, Lib.hid rfl⟩
        case round =>
          obtain ⟨c, V, hc, rfl, rfl, v0, v1, HV⟩ := hrel
          by_cases hlt2 : c < n
          · obtain ⟨b', off, rfl, hb, cx⟩ := HS1.out.int c (by rw [HLL.out]; exact hlt2)
            rw [HMT.out] at cx
            have hbd := HK.out.bd k c
            have hst : sK (fun c => mt (mOf R) k c) (c + 1) = V + mt (mOf R) k c := by rw [← HV.out]; rfl
            obtain ⟨x, hx⟩ : ∃ x, mt (mOf R) k c = x := ⟨_, rfl⟩
            rw [hx] at cx hbd hst
            have HST2 := Lib.hid hst
            obtain ⟨x0, x1⟩ := hbd
            have i3 : (0 : Int) ≤ (c : Int) := by omega
            have i4 : (c : Int) < (n : Int) := by omega
            clear hx hst
            go_wp2_with fail
            exact ⟨⟨c + 1, V + x, by omega, by simp, rfl, by omega, by omega, HST2⟩, by simp only [intOf]; omega⟩
          · obtain rfl : c = n := by omega
            obtain ⟨b3, o3, rfl, hb3, cr⟩ := (HF.out.get 1 rfl).int k (by rw [restL, restP_len]; exact hlt)
            rw [restL_nth _ _ _ hlt] at cr
            have t0 := HNN.out k
            rw [show hT (mOf R) c k c [] = treeT (mOf R) c k from rfl] at t0
            have t1 := HLE.out k
            have hof := HOF.out k
            unfold ofN at hof
            have hst := HST.out; have hsu := HSU.out
            rw [show outA (mOf R) c k = V from HV.out] at hof hst hsu
            obtain ⟨T, hT'⟩ : ∃ T, treeT (mOf R) c k = T := ⟨_, rfl⟩
            rw [hT'] at cr t0 t1 hof hst hsu
            have HCR : Hid (∀ (w3 : World) (od' : Option Addr) (oc' : Nat) (l : List Int), Fr w w3 (⟨3, .slice od' (k + 1) oc', ints l⟩ :: [⟨3, .slice (some ⟨b3, o3, .none⟩) c c, ints (restL (mOf R) c)⟩]) → w3.cell? ⟨b3, o3 + k, .none⟩ = some (.int .i64 T)) := Lib.hid (fun w3 od' oc' l hf2 => by
              obtain ⟨_, _, e, _, cr2⟩ := (hf2.get 1 rfl).int k (by rw [restL, restP_len]; exact hlt)
              cases e
              rw [restL_nth _ _ _ hlt, hT'] at cr2
              exact cr2)
            obtain ⟨Q, hQ⟩ : ∃ Q, T * V = Q := ⟨_, rfl⟩
            rw [hQ] at hof hst hsu
            have HST3 := Lib.hid hst; have HSU3 := Lib.hid hsu
            obtain ⟨q0, q1⟩ := hof
            clear hT' hst hsu
            go_wp2_with (with_reducible refine at_slot 71 ?_; go_must (refine wpList_pushInt' rfl _ _ rfl od k oc _ Q _ _ (by simp) rfl HF.out rfl ?_ ?_); rotate_left; intro od' oc' w3 hf2 hlt2; have cr2 := HCR.out _ _ _ _ hf2)
            · rw [← HST3.out] at hf2
              exact ⟨⟨k + 1, A + Q, od', oc', by omega, by simp, rfl, rfl, by omega, by omega, HSU3, Lib.hid hf2⟩, by simp only [intOf]; omega⟩
            · omega
      · obtain rfl : k = n := by omega
        obtain ⟨wo, rfl⟩ : ∃ wo : World, wo = wr := ⟨_, rfl⟩
        by_cases hA0 : A = 0
        · have g1 : (A == 0) = true := beq_iff_eq.2 hA0
          clear hA0
          go_wp2_with fail
          go_ret
          exact ⟨rfl, HF.out.bel⟩
        have g1 : (A == 0) = false := beq_eq_false_iff_ne.2 hA0
        have hAp : 0 < A := by omega
        have HOL : Hid (Sa wo od (ints (ofL (mOf R) k k))) := Lib.hid (HF.out.get 0 rfl)
        have hxA : ∀ i, i < k → ofN (mOf R) k i ≤ A := fun i hi => by
          have h1 := sK_mono (ofN (mOf R) k) (i + 1) k (fun j _ => (HOF.out j).1) (by omega)
          have h2 := sK_nonneg (ofN (mOf R) k) i (fun j _ => (HOF.out j).1)
          rw [sK] at h1
          rw [HA.out] at h1
          omega
        have HXA := Lib.hid hxA
        have HBW : Hid (Below w.heap.size w wo) := Lib.hid HF.out.bel
        clear hA0 hxA HF
        go_wp2_with fail
        clear g1
        go_loopw [12, 85] (fun s12 s85 wq => ∃ (j : Nat) (v : Value) (lz : List Int), j ≤ k ∧ s85 = .int .i64 j ∧ v = s12 ∧ Hid (lz.length = j * 2 ∧ (∀ i, i < j → Rat1 (nth lz (i * 2)) (nth lz (i * 2 + 1)) ∧ nth lz (i * 2) * A = ofN (mOf R) k i * nth lz (i * 2 + 1)) ∧ (0 < j → A ≤ 1000000000)) ∧ Hid (wq.ownsRow wo.heap.size 25 2 v j (ints lz)) ∧ Hid (Below wo.heap.size wo wq)) (fun _ s _ => k - (intOf s).toNat)
        case atStart => exact ⟨0, _, [], by omega, rfl, rfl, Lib.hid ⟨rfl, fun i hi => by omega, fun h => by omega⟩, Lib.hid (World.ownsRow_nil _ _ _ _), Lib.hid (Below.refl _ _)⟩
        case round =>
          obtain ⟨j, v, lz, hj, rfl, rfl, HZ, HO, HB⟩ := hrel
          by_cases hlt2 : j < k
          · obtain ⟨b3, o3, rfl, hb3, cx⟩ := (HOL.out.keep HB.out).int j (by rw [ofL_len]; exact hlt2)
            rw [ofL_nth _ _ _ _ hlt2] at cx
            have hxb := HOF.out j
            have hxA := HXA.out j hlt2
            obtain ⟨X, hX⟩ : ∃ X, ofN (mOf R) k j = X := ⟨_, rfl⟩
            rw [hX] at cx hxb hxA
            have HX := Lib.hid hX
            obtain ⟨x0, x1⟩ := hxb
            have i1 : (0 : Int) ≤ (j : Int) := by omega
            have i2 : (j : Int) < (k : Int) := by omega
            clear hX
            by_cases hbig : 1000000000 < A
            · go_wp2_with fail
              refine (make_large X A _ (by omega)).mono ?_; rintro e w5 ⟨rfl, hb⟩
              have HB5 := Lib.hid (kin_trans HBW.out (HB.out.trans (hb.mono HB.out.size)))
              clear hb
              go_wp2_with fail
              go_ret
              exact ⟨by simp, kin_alloc HB5.out _⟩
            · obtain ⟨P, Q, hRR⟩ : ∃ P Q, RedIs X A P Q := ⟨_, _, rfl, rfl⟩
              have hR1 := red_rat X A ⟨by omega, by omega⟩ ⟨hAp, by omega⟩
              have hcr := red_cross X A
              rw [hRR.1, hRR.2] at hR1 hcr
              have HZ2 : Hid ((lz ++ [P, Q]).length = (j + 1) * 2 ∧ (∀ i, i < j + 1 → Rat1 (nth (lz ++ [P, Q]) (i * 2)) (nth (lz ++ [P, Q]) (i * 2 + 1)) ∧ nth (lz ++ [P, Q]) (i * 2) * A = ofN (mOf R) k i * nth (lz ++ [P, Q]) (i * 2 + 1)) ∧ (0 < j + 1 → A ≤ 1000000000)) := Lib.hid (by
                obtain ⟨z1, z2, _⟩ := HZ.out
                refine ⟨by rw [List.length_append, z1]; simp; omega, fun i hi => ?_, fun _ => by omega⟩
                have hap : ∀ t, t < j * 2 → nth (lz ++ [P, Q]) t = nth lz t := fun t ht => by
                  unfold nth; rw [List.getD_eq_getElem?_getD, List.getD_eq_getElem?_getD, List.getElem?_append_left (by omega)]
                by_cases e : i = j
                · subst e
                  have e1 : nth (lz ++ [P, Q]) (i * 2) = P := by unfold nth; rw [List.getD_eq_getElem?_getD, List.getElem?_append_right (by omega), z1]; simp
                  have e2 : nth (lz ++ [P, Q]) (i * 2 + 1) = Q := by unfold nth; rw [List.getD_eq_getElem?_getD, List.getElem?_append_right (by omega), z1]; simp
                  rw [e1, e2, HX.out]; exact ⟨hR1, hcr⟩
                · rw [hap _ (by omega), hap _ (by omega)]; exact z2 i (by omega))
              have HRR := Lib.hid hRR
              have hint : ints lz ++ [.int .i64 P, .int .i64 Q] = ints (lz ++ [P, Q]) := by simp [ints]
              have HINT := Lib.hid hint
              clear hRR hR1 hcr hint
              go_wp2_with fail
              refine (make_fits X A P Q _ (by omega) (by omega) HRR.out).mono ?_; rintro e w5 ⟨rfl, hb⟩
              have HO5 : Hid ((w5.alloc (.cells #[.int .i64 P, .int .i64 Q] 25)).ownsRow wo.heap.size 25 2 v j (ints lz)) := Lib.hid (World.ownsRow.alloc (World.ownsRow.kept HO.out (grown0 hb) (by cases hv : v.ownBlock <;> simp)) _)
              have hb5 := HB.out.trans (hb.mono HB.out.size)
              have HB5 : Hid (Below wo.heap.size wo (w5.alloc (.cells #[.int .i64 P, .int .i64 Q] 25))) := Lib.hid (hb5.alloc hb5.size _)
              clear hb hb5 cx
              go_wp2_with (with_reducible refine at_slot 102 ?_; go_must (refine wpList_pushStr rfl _ _ 49 25 _ 2 16 Try.underlying49 ratInfo rfl (by decide) (by decide) rfl v j _ [.int .i64 P, .int .i64 Q] rfl HO5.out HB5.out _ (by simp) rfl rfl ?_ ?_ ?_); rotate_left; rotate_left; intro v' w3 ho2 hb2 hlt3)
              · rw [HINT.out] at ho2
                exact ⟨⟨j + 1, v', _, by omega, by simp, rfl, HZ2, Lib.hid ho2, Lib.hid hb2⟩, by simp only [intOf]; omega⟩
              · intro y hy
                simp only [List.mem_cons, List.not_mem_nil, or_false] at hy
                rcases hy with rfl | rfl <;> rfl
              · omega
          · obtain rfl : j = k := by omega
            obtain ⟨ad2, cp2, rfl, hcp, hfb⟩ := FB.of HO.out HB.out
            obtain ⟨z1, z2, z3⟩ := HZ.out
            have hA9 := z3 (by omega)
            have HFB := Lib.hid hfb
            have HM2 : Hid (Mx wo a R) := Lib.hid (HS.out.keep HBW.out)
            have hcc : ∀ i k, i < j → k < j → nth lz (i * 2) * pnK (mOf R) j i k * A = (fun i k => treeT (mOf R) j i * mt (mOf R) i k) i k * (nth lz (i * 2 + 1) * pqK (mOf R) j i) := fun i k hi hk => by
              have hz := (z2 i hi).2
              unfold ofN at hz
              simp only
              unfold pnK pqK
              by_cases h0 : outA (mOf R) j i = 0
              · rw [if_pos h0, if_pos h0]
                rw [h0] at hz
                have ha0 : nth lz (i * 2) = 0 := by
                  have : nth lz (i * 2) * A = 0 := by rw [hz]; simp
                  rcases Int.mul_eq_zero.1 this with h | h
                  · exact h
                  · omega
                have hm0 : mt (mOf R) i k = 0 := by
                  have h1 := sK_mono (fun k => mt (mOf R) i k) (k + 1) j (fun t _ => (HK.out.bd i t).1) (by omega)
                  have h2 := sK_nonneg (fun k => mt (mOf R) i k) k (fun t _ => (HK.out.bd i t).1)
                  have h3 := (HK.out.bd i k).1
                  unfold outA at h0
                  rw [sK, h0] at h1
                  omega
                rw [ha0, hm0]; simp
              · rw [if_neg h0, if_neg h0]
                have e1 : nth lz (i * 2) * mt (mOf R) i k * A = nth lz (i * 2) * A * mt (mOf R) i k := by rw [Int.mul_assoc, Int.mul_comm (mt _ _ _), ← Int.mul_assoc]
                rw [e1, hz]; grind
            have hcs : ∀ k, k < j → sK (fun t => (fun i k => treeT (mOf R) j i * mt (mOf R) i k) t k) j = ofN (mOf R) j k := fun k hk => stays (mOf R) j k (by omega) hk
            have hc9 : ∀ k, sK (fun t => (fun i k => treeT (mOf R) j i * mt (mOf R) i k) t k) j ≤ 1000000000 := fun k => by
              by_cases hk : k < j
              · rw [hcs k hk]; have := HXA.out k hk; omega
              · have hz : ∀ t, t < j → mt (mOf R) t k = 0 := fun t ht => by
                  have hr := HK.out.row t ht
                  unfold mt nth
                  rw [List.getD_eq_getElem?_getD, List.getElem?_eq_none (by omega)]; rfl
                rw [sK_congr (g := fun _ => 0) j (fun t ht => by simp only; rw [hz t ht]; simp), sK_zero]; omega
            have HLR : Hid (RowOk lz j A (ofN (mOf R) j)) := Lib.hid ⟨z1, fun k hk => (z2 k hk).1, fun k hk => (z2 k hk).2⟩
            have HZ1 := Lib.hid z1; have HCC := Lib.hid hcc; have HCS := Lib.hid hcs; have HC9 := Lib.hid hc9
            have HZ2 : Hid (∀ i, i < j → Rat1 (nth lz (i * 2)) (nth lz (i * 2 + 1))) := Lib.hid (fun i hi => (z2 i hi).1)
            have HCN : Hid (∀ i k, 0 ≤ (fun i k => treeT (mOf R) j i * mt (mOf R) i k) i k) := Lib.hid (fun i k => Int.mul_nonneg (HNN.out i) (HK.out.bd i k).1)
            clear HO HB hfb z1 z2 z3 hcc hcs hc9
            go_wp2_with fail
            refine (chaStep_any R lz j _ _ _ _ A (fun i k => treeT (mOf R) j i * mt (mOf R) i k) _ (HM2.out.keep HFB.out.bel) HN.out HL.out HC0.out HFB.out.sa HZ1.out HZ2.out hAp hA9 HCN.out HC9.out HCC.out).mono ?_; rintro e w6 ⟨G, C, rfl, hro, hf⟩
            have hCl : C = lz := row_same hAp hro HLR.out HCS.out
            subst hCl
            have HL6 := Lib.hid (HFB.out.keep hf.bel).sa
            have HT6 : Hid (Sa w6 (some ⟨G, 0, .none⟩) (ints C)) := Lib.hid (hf.get 0 rfl)
            have HB6 : Hid (Below w.heap.size w w6) := Lib.hid (kin_trans HBW.out (HFB.out.keep hf.bel).bel)
            clear hro hf
            go_wp2_with fail
            refine (slEqR C j _ _ _ _ _ HT6.out HL6.out HZ1.out (by omega)).mono ?_; rintro e w7 ⟨rfl, hb⟩
            have HB7 := Lib.hid (kin_trans HB6.out hb)
            clear hb
            go_wp2_with fail
            go_ret
            exact ⟨rfl, HB7.out⟩
theorem chainStays_row (a0 : Option Addr) (len0 cap0 : Nat) (w : World) (w0 : IsMat w a0 len0 cap0) :
    Calls Try.prog 12 #[.slice a0 len0 cap0] w fun e w' => e = .returned (.bool true) ∧ Below w.heap.size w w' := by
  obtain ⟨_, _, R, h1, h2, h3⟩ := w0
  exact chainStays_any R len0 a0 cap0 w h2 h1 (fun p hp => (h3 p hp).1)
end Go.Proofs.Ytghobphnjfgjeaa
