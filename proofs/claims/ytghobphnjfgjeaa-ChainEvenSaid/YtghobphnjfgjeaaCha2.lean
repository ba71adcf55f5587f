/- Contract of the closure that chain.trees calls: all ways on from some chosen nodes. -/
import Derived.Test.YtghobphnjfgjeaaCha
import Derived.Deep.RegionWith
import Derived.StillTailTactics
namespace Go.Proofs.Ytghobphnjfgjeaa
open Go.RowKit

def nts (l : List Nat) : List Int := l.map fun x : Nat => (x : Int)
theorem nts_len (l : List Nat) : (nts l).length = l.length := by simp [nts]
theorem nts_get (l : List Nat) (i : Nat) (h : i < l.length) : nth (nts l) i = (l.getD i 0 : Nat) := by simp [nts, nth, h]
theorem nts_set (l : List Nat) (i x : Nat) : (nts l).set i (x : Int) = nts (l.set i x) := by simp [nts, List.map_set]
/-- one cell of the call's own -/
def cellE (T : TypeId) (b : Nat) (v : Value) : Ent := ⟨T, .slice (some ⟨b, 0, none⟩) 1 1, [v]⟩
theorem Fr.cell1 {w0 w : World} {L : List Ent} (h : Fr w0 w L) (i : Nat) {T : TypeId} {b : Nat} {v : Value} (he : L[i]? = some (cellE T b v)) : w.cell? ⟨b, 0, .none⟩ = some v := by
  obtain ⟨b', off, e, _, hc⟩ := (h.get i he).at 0 (by simp)
  cases e
  exact hc
def chosenV (bn br bt bs bc bm : Nat) : Value := .func (.func 60) #[] #[.pointer (some ⟨bn, 0, none⟩), .pointer (some ⟨br, 0, none⟩), .pointer (some ⟨bt, 0, none⟩), .pointer (some ⟨bs, 0, none⟩), .pointer (some ⟨bc, 0, none⟩), .pointer (some ⟨bm, 0, none⟩)]
def stK (n root : Nat) (a : Option Addr) (ca g bn br bt bs bc bm : Nat) : List Ent :=
  [cellE 3 bn (.int .i64 (n : Int)), cellE 3 br (.int .i64 (root : Int)), cellE 35 bt (.slice (some ⟨g, 0, none⟩) n n), cellE 74 bc (chosenV bn br bt bs bc bm), cellE 48 bm (.slice a n ca)]
def stE (n root : Nat) (a : Option Addr) (ca g bn br bt bs bc bm : Nat) (Tl : List Nat) (S : Int) : List Ent :=
  ⟨3, .slice (some ⟨g, 0, none⟩) n n, ints (nts Tl)⟩ :: cellE 3 bs (.int .i64 S) :: stK n root a ca g bn br bt bs bc bm
def stepK (M : List (List Int)) (n root r : Nat) (p : List Nat) (k : Nat) : Int := if k = p.length then 0 else mt M p.length k * hT M n root r (p ++ [k])
def ChSaid (w0 : World) (n root : Nat) (a : Option Addr) (ca g bn br bt bs bc bm : Nat) (Tl : List Nat) (i : Nat) (S : Int) (e : Ending) (w' : World) : Prop :=
  e = .returned (.tuple #[]) ∧ ∃ Tl' : List Nat, Tl'.length = n ∧ Tl'.getD root 0 = 0 ∧ (∀ j, Tl'.getD j 0 < n) ∧ Tl'.take i = Tl.take i ∧ Fr w0 w' (stE n root a ca g bn br bt bs bc bm Tl' S)

set_option maxRecDepth 100000 in
set_option maxHeartbeats 8000000 in
theorem choose_any {w0 : World} (R : List Rw) (n root : Nat) (a : Option Addr) (ca g bn br bt bs bc bm : Nat) (hR : R.length = n) (hok : COk (mOf R) n) (hroot : root < n) (hM : Mx w0 a R) :
    ∀ (r i : Nat), i + r = n → ∀ (w : World) (Tl : List Nat) (S wt : Int), Fr w0 w (stE n root a ca g bn br bt bs bc bm Tl S) → Tl.length = n → Tl.getD root 0 = 0 → (∀ j, Tl.getD j 0 < n) → 0 ≤ S → S + wt * hT (mOf R) n root r (Tl.take i) ≤ 10000000000 → 0 ≤ wt → wt ≤ 20 ^ i →
      Calls Try.prog 60 #[.int .i64 (i : Int), .int .i64 wt, .pointer (some ⟨bn, 0, none⟩), .pointer (some ⟨br, 0, none⟩), .pointer (some ⟨bt, 0, none⟩), .pointer (some ⟨bs, 0, none⟩), .pointer (some ⟨bc, 0, none⟩), .pointer (some ⟨bm, 0, none⟩)] w
        (ChSaid w0 n root a ca g bn br bt bs bc bm Tl i (S + wt * hT (mOf R) n root r (Tl.take i))) := by
  have n5 := hok.n5
  intro r
  induction r with
  | zero =>
    intro i hi w Tl S wt hF hl h0 hlt hS hb hw hw2
    obtain rfl : i = n := by omega
    have cn := hF.cell1 2 rfl
    have cr := hF.cell1 3 rfl
    have ct := hF.cell1 4 rfl
    obtain ⟨_, e, _, _, hcs, hfs⟩ := (hF.swap).open (by simp)
    cases e
    have cs : w.cell? ⟨bs, 0, none⟩ = some (.int .i64 S) := hcs 0 (by simp)
    have fs := hfs 0
    have HG := Lib.hid (hF.get 0 rfl)
    have HF := Lib.hid hF; have HL := Lib.hid hl; have HLT := Lib.hid hlt; have H0 := Lib.hid h0
    have htk : Tl.take i = Tl := List.take_of_length_le (by omega)
    rw [htk] at hb
    have HTK := Lib.hid htk
    clear hF hl hlt h0 htk hcs hfs
    by_cases hz : wt = 0
    · subst hz
      go_enter Try.func60, Try.ntmps60
      go_wp2_with fail
      refine bodyPost_ret (results_none rfl _ _ _) rfl ?_
      exact ⟨rfl, Tl, HL.out, H0.out, HLT.out, rfl, by rw [Int.zero_mul, Int.add_zero]; exact HF.out⟩
    · have z1 : (wt == 0) = false := beq_eq_false_iff_ne.2 hz
      have z2 : ((i : Int) == (i : Int)) = true := beq_self_eq_true _
      have hw3 : wt ≤ 3200000 := by
        have : (20 : Int) ^ i ≤ 20 ^ 5 := by
          have : i = 0 ∨ i = 1 ∨ i = 2 ∨ i = 3 ∨ i = 4 ∨ i = 5 := by omega
          rcases this with rfl | rfl | rfl | rfl | rfl | rfl <;> decide
        omega
      clear hw2
      go_enter Try.func60, Try.ntmps60
      go_wp2_with fail
      clear z2
      go_loop [19] (fun s19 => ∃ k : Nat, k ≤ i ∧ s19 = .int .i64 k ∧ Hid (∀ j, j < k → goT Tl root i j = root)) (fun s => i - (intOf s).toNat)
      case atStart => exact ⟨0, by omega, rfl, Lib.hid (fun j hj => by omega)⟩
      case round =>
        obtain ⟨k, hk, rfl, HK⟩ := hrel
        by_cases hlt2 : k < i
        · go_wp2_with fail
          go_loop [11, 24] (fun s11 s24 => ∃ f d at' : Nat, f ≤ i ∧ s24 = .int .i64 f ∧ s11 = .int .i64 at' ∧ at' < i ∧ Hid (f + d = i) ∧ Hid (goT Tl root d at' = goT Tl root i k)) (fun _ s => i - (intOf s).toNat)
          case atStart => exact ⟨0, i, k, by omega, rfl, rfl, hlt2, Lib.hid (by omega), Lib.hid rfl⟩
          case round =>
            obtain ⟨f, d, at', hf, rfl, rfl, hat, HFD, HGO⟩ := hrel
            by_cases hlt3 : f < i
            · obtain ⟨d', rfl⟩ : ∃ d', d = d' + 1 := ⟨d - 1, by have := HFD.out; omega⟩
              have HFD2 : Hid (f + 1 + d' = i) := Lib.hid (by have := HFD.out; omega)
              have hgo := HGO.out
              rw [goT] at hgo
              by_cases har : at' = root
              · have g1 : ((at' : Int) != (root : Int)) = false := by rw [bne_eq_false_iff_eq]; omega
                rw [show stepT Tl root at' = at' by unfold stepT; rw [if_pos har]] at hgo
                have HGO2 := Lib.hid hgo
                clear hgo har
                go_wp2_with fail
                exact ⟨⟨f + 1, d', at', by omega, by simp, rfl, hat, HFD2, HGO2⟩, by simp only [intOf]; omega⟩
              · have g1 : ((at' : Int) != (root : Int)) = true := by rw [bne_iff_ne]; omega
                rw [show stepT Tl root at' = Tl.getD at' 0 by unfold stepT; rw [if_neg har]] at hgo
                have HGO2 := Lib.hid hgo
                obtain ⟨_, _, e, _, cx⟩ := HG.out.int at' (by rw [nts_len, HL.out]; exact hat)
                cases e
                rw [nts_get _ _ (by rw [HL.out]; exact hat), Nat.zero_add] at cx
                have hv := HLT.out at'
                obtain ⟨v, hvv⟩ : ∃ v, Tl.getD at' 0 = v := ⟨_, rfl⟩
                rw [hvv] at cx hv HGO2
                have i1 : (0 : Int) ≤ (at' : Int) := by omega
                have i2 : (at' : Int) < (i : Int) := by omega
                clear hgo har hvv
                go_wp2_with fail
                exact ⟨⟨f + 1, d', v, by omega, by simp, rfl, hv, HFD2, HGO2⟩, by simp only [intOf]; omega⟩
            · obtain rfl : f = i := by omega
              have hd : d = 0 := by have := HFD.out; omega
              subst hd
              have hgo := HGO.out
              rw [goT] at hgo
              by_cases har : at' = root
              · have g1 : ((at' : Int) != (root : Int)) = false := by rw [bne_eq_false_iff_eq]; omega
                have HK2 : Hid (∀ j, j < k + 1 → goT Tl root f j = root) := Lib.hid (fun j hj => by
                  by_cases e : j = k
                  · rw [e, ← hgo]; exact har
                  · exact HK.out j (by omega))
                clear hgo har
                go_wp2_with fail
                exact ⟨⟨k + 1, by omega, by simp, HK2⟩, by simp only [intOf]; omega⟩
              · have g1 : ((at' : Int) != (root : Int)) = true := by rw [bne_iff_ne]; omega
                have hre : reachB f root Tl = false := by
                  unfold reachB
                  rw [List.all_eq_false]
                  exact ⟨k, List.mem_range.2 hlt2, by rw [← hgo]; simp [har]⟩
                have hh : hT (mOf R) f root 0 (Tl.take f) = 0 := by rw [HTK.out, hT, if_neg (by rw [hre]; simp)]
                have HH := Lib.hid hh
                clear hgo har hre hh
                go_wp2_with fail
                refine bodyPost_ret (results_none rfl _ _ _) rfl ?_
                exact ⟨rfl, Tl, HL.out, H0.out, HLT.out, rfl, by rw [HH.out, Int.mul_zero, Int.add_zero]; exact HF.out⟩
        · obtain rfl : k = i := by omega
          have hre : reachB k root Tl = true := by
            unfold reachB
            rw [List.all_eq_true]
            intro j hj
            rw [HK.out j (List.mem_range.1 hj)]; simp
          have hh : hT (mOf R) k root 0 Tl = 1 := by rw [hT, if_pos hre]
          rw [hh] at hb
          have hh2 : wt * hT (mOf R) k root 0 (Tl.take k) = wt := by rw [HTK.out, hh, Int.mul_one]
          have HH := Lib.hid hh2
          have hsum : S + wt ≤ 10000000000 := by omega
          clear hh hh2 hre hb
          go_wp2_with fail
          refine bodyPost_ret (results_none rfl _ _ _) rfl ?_
          refine ⟨rfl, Tl, HL.out, H0.out, HLT.out, rfl, ?_⟩
          rw [HH.out]
          exact (HF.out.swap.set 0 (.int .i64 (S + wt))).swap
  | succ r ih =>
    intro i hi w Tl S wt hF hl h0 hlt hS hb hw hw2
    have hin : i < n := by omega
    have hpl : (Tl.take i).length = i := by rw [List.length_take]; omega
    have cn := hF.cell1 2 rfl
    have cr := hF.cell1 3 rfl
    have ct := hF.cell1 4 rfl
    have cc := hF.cell1 5 rfl
    unfold chosenV at cc
    have HF := Lib.hid hF; have HL := Lib.hid hl; have HLT := Lib.hid hlt; have H0 := Lib.hid h0; have HPL := Lib.hid hpl
    have htk : Tl.take (i + 1) = Tl.take i ++ [Tl.getD i 0] := by
      rw [List.take_succ_eq_append_getElem (by omega)]
      congr 2
      rw [List.getD_eq_getElem?_getD, List.getElem?_eq_getElem (by omega)]; rfl
    have hnn := hT_nonneg (mOf R) n root (fun i k => (hok.bd i k).1)
    have HNN := Lib.hid hnn
    have hpow : (20 : Int) ^ (i + 1) = 20 ^ i * 20 := Int.pow_succ _ _
    have hp5 : (20 : Int) ^ i ≤ 160000 := by
      have : i = 0 ∨ i = 1 ∨ i = 2 ∨ i = 3 ∨ i = 4 := by omega
      rcases this with rfl | rfl | rfl | rfl | rfl <;> decide
    have hw3 : wt ≤ 160000 := by omega
    have HTK := Lib.hid htk
    clear hF hl hlt h0 htk hpl hnn
    by_cases hz : wt = 0
    · subst hz
      go_enter Try.func60, Try.ntmps60
      go_wp2_with fail
      refine bodyPost_ret (results_none rfl _ _ _) rfl ?_
      exact ⟨rfl, Tl, HL.out, H0.out, HLT.out, rfl, by rw [Int.zero_mul, Int.add_zero]; exact HF.out⟩
    · have z1 : (wt == 0) = false := beq_eq_false_iff_ne.2 hz
      have z2 : ((i : Int) == (n : Int)) = false := beq_eq_false_iff_ne.2 (by omega)
      have e1 : ((i + 1 : Nat) : Int) = (i : Int) + 1 := by simp
      by_cases hir : i = root
      · have z3 : ((i : Int) == (root : Int)) = true := beq_iff_eq.2 (by omega)
        have hh : hT (mOf R) n root (r + 1) (Tl.take i) = hT (mOf R) n root r (Tl.take (i + 1)) := by
          rw [hT, if_pos (by rw [HPL.out]; exact hir), HTK.out, hir, H0.out]
        rw [hh] at hb
        have hcall := ih (i + 1) (by omega) w Tl S wt HF.out HL.out H0.out HLT.out hS hb hw (by rw [hpow]; omega)
        rw [e1] at hcall
        have HC := Lib.hid hcall; have HH := Lib.hid hh
        clear hcall hh hb e1 hpow ih hw2 hir
        go_enter Try.func60, Try.ntmps60
        go_wp2_with fail
        refine HC.out.mono ?_; rintro e w' ⟨rfl, Tl', k1, k2, k3, k4, k5⟩
        have K4 := Lib.hid k4; have K5 := Lib.hid k5; have K2 := Lib.hid k2; have K3 := Lib.hid k3; have K1 := Lib.hid k1
        clear k1 k2 k3 k4 k5
        go_wp2_with fail
        refine bodyPost_ret (results_none rfl _ _ _) rfl ?_
        refine ⟨rfl, Tl', K1.out, K2.out, K3.out, ?_, by rw [HH.out]; exact K5.out⟩
        have := congrArg (List.take i) K4.out
        rwa [List.take_take, List.take_take, Nat.min_eq_left (by omega)] at this
      · have z3 : ((i : Int) == (root : Int)) = false := beq_eq_false_iff_ne.2 (by omega)
        have hh : hT (mOf R) n root (r + 1) (Tl.take i) = sK (stepK (mOf R) n root r (Tl.take i)) n := by
          rw [hT, if_neg (by rw [HPL.out]; exact hir)]; rfl
        rw [hh] at hb
        have HH := Lib.hid hh
        have hkn : ∀ k, 0 ≤ stepK (mOf R) n root r (Tl.take i) k := fun k => by
          unfold stepK; split
          · omega
          · exact Int.mul_nonneg (hok.bd _ _).1 (HNN.out _ _)
        have HKN := Lib.hid hkn; have HIH := Lib.hid ih; have HP := Lib.hid hpow; have HB := Lib.hid hb; have HW2 := Lib.hid hw2
        clear hkn ih hpow hh hb e1 hw2
        go_enter Try.func60, Try.ntmps60
        go_wp2_with fail
        have HS0 : Hid (Fr w0 w (stE n root a ca g bn br bt bs bc bm Tl (S + wt * sK (stepK (mOf R) n root r (Tl.take i)) 0))) := Lib.hid (by simpa [sK] using HF.out)
        have HT0 : Hid (Tl.take i = Tl.take i) := Lib.hid rfl
        go_loopw [50] (fun s50 wr => ∃ (k : Nat) (Tk : List Nat), k ≤ n ∧ s50 = .int .i64 k ∧ Hid (Tk.length = n) ∧ Hid (Tk.getD root 0 = 0) ∧ Hid (∀ j, Tk.getD j 0 < n) ∧ Hid (Tk.take i = Tl.take i) ∧
          Hid (Fr w0 wr (stE n root a ca g bn br bt bs bc bm Tk (S + wt * sK (stepK (mOf R) n root r (Tl.take i)) k)))) (fun s _ => n - (intOf s).toNat)
        case atStart => exact ⟨0, Tl, by omega, rfl, HL, H0, HLT, HT0, HS0⟩
        case round =>
          clear HS0 HT0 cn cr ct cc
          obtain ⟨k, Tk, hk, rfl, KL, K0, KLT, KT, KF⟩ := hrel
          have cn := KF.out.cell1 2 rfl
          have ct := KF.out.cell1 4 rfl
          by_cases hlt2 : k < n
          · by_cases hki : k = i
            · have g1 : ((k : Int) != (i : Int)) = false := by rw [bne_eq_false_iff_eq]; omega
              have hst : sK (stepK (mOf R) n root r (Tl.take i)) (k + 1) = sK (stepK (mOf R) n root r (Tl.take i)) k := by
                rw [sK, show stepK (mOf R) n root r (Tl.take i) k = 0 by unfold stepK; rw [if_pos (by rw [HPL.out]; exact hki)], Int.add_zero]
              have hf := KF.out
              rw [← hst] at hf
              have KF2 := Lib.hid hf
              clear hst hf hki
              go_wp2_with fail
              exact ⟨⟨k + 1, Tk, by omega, by simp, KL, K0, KLT, KT, KF2⟩, by simp only [intOf]; omega⟩
            · have g1 : ((k : Int) != (i : Int)) = true := by rw [bne_iff_ne]; omega
              obtain ⟨_, e, hg0, ci, fi⟩ := KF.out.openI i (by rw [nts_len, KL.out]; exact hin)
              cases e
              have i1 : (0 : Int) ≤ (i : Int) := by omega
              have i2 : (i : Int) < (n : Int) := by omega
              have i3 : (0 : Int) ≤ (k : Int) := by omega
              have i4 : (k : Int) < (n : Int) := by omega
              have hf := KF.out.setInt i (k : Int)
              rw [nts_set] at hf
              have KF2 : Hid (Fr w0 (wr.setCell ⟨g, i, none⟩ (.int .i64 (k : Int))) (stE n root a ca g bn br bt bs bc bm (Tk.set i k) (S + wt * sK (stepK (mOf R) n root r (Tl.take i)) k))) := Lib.hid hf
              clear hf
              go_wp2_with fail
              obtain ⟨w2, hw2⟩ : ∃ w2, wr.setCell ⟨g, i, none⟩ (.int .i64 (k : Int)) = w2 := ⟨_, rfl⟩
              rw [hw2] at KF2 ⊢
              clear hw2 cn ct ci fi
              have cc := KF2.out.cell1 5 rfl
              unfold chosenV at cc
              have cm := KF2.out.cell1 6 rfl
              obtain ⟨b', off, A, C, l, rfl, hb', hlr, hca, hsl⟩ := (hM.keep KF2.out.bel).at i (by rw [hR]; exact hin)
              have hln : l.length = n := by rw [hlr]; exact hok.row i hin
              obtain ⟨b2, o2, rfl, hb2, cx⟩ := hsl.int k (by rw [hln]; exact hlt2)
              rw [hln] at hca
              have hxe : nth l k = mt (mOf R) i k := by rw [hlr]; rfl
              have hxb := hok.bd i k
              have hst : wt * sK (stepK (mOf R) n root r (Tl.take i)) (k + 1) = wt * sK (stepK (mOf R) n root r (Tl.take i)) k + wt * mt (mOf R) i k * hT (mOf R) n root r (Tl.take i ++ [k]) := by
                rw [sK, Int.mul_add, show stepK (mOf R) n root r (Tl.take i) k = mt (mOf R) i k * hT (mOf R) n root r (Tl.take i ++ [k]) by unfold stepK; rw [if_neg (by rw [HPL.out]; exact hki), HPL.out], Int.mul_assoc]
              have hmono : wt * sK (stepK (mOf R) n root r (Tl.take i)) (k + 1) ≤ wt * sK (stepK (mOf R) n root r (Tl.take i)) n := Int.mul_le_mul_of_nonneg_left (sK_mono _ _ _ (fun k _ => HKN.out k) (by omega)) hw
              have hpos : 0 ≤ wt * sK (stepK (mOf R) n root r (Tl.take i)) k := Int.mul_nonneg hw (sK_nonneg _ _ (fun k _ => HKN.out k))
              rw [hxe] at cx
              obtain ⟨X, hX⟩ : ∃ X, mt (mOf R) i k = X := ⟨_, rfl⟩
              rw [hX] at cx hxb hst
              have q0 : 0 ≤ wt * X := Int.mul_nonneg hw hxb.1
              have q1 : wt * X ≤ 160000 * 20 := Int.mul_le_mul hw3 hxb.2 hxb.1 (by omega)
              have q2 : wt * X ≤ 20 ^ (i + 1) := by
                have hpi : (0 : Int) ≤ 20 ^ i := Int.pow_nonneg (by omega)
                rw [HP.out]; exact Int.mul_le_mul HW2.out hxb.2 hxb.1 hpi
              obtain ⟨Q, hQ⟩ : ∃ Q, wt * X = Q := ⟨_, rfl⟩
              rw [hQ] at hst q0 q1 q2
              obtain ⟨S', hS'⟩ : ∃ S', S + wt * sK (stepK (mOf R) n root r (Tl.take i)) k = S' := ⟨_, rfl⟩
              have hbb := HB.out
              have ht2 : (Tk.set i k).take (i + 1) = Tl.take i ++ [k] := by
                rw [List.take_succ_eq_append_getElem (by rw [List.length_set, KL.out]; exact hin), List.take_set_of_le (Nat.le_refl _), KT.out]
                simp
              have hcall := HIH.out (i + 1) (by omega) w2.drew (Tk.set i k) S' Q (by have := KF2.out.drew; rwa [hS'] at this) (by rw [List.length_set]; exact KL.out)
                (by rw [getD_setN _ _ _ _ (by rw [KL.out]; exact hin), if_neg (fun e => hir e.symm)]; exact K0.out)
                (fun j => by rw [getD_setN _ _ _ _ (by rw [KL.out]; exact hin)]; split; exact hlt2; exact KLT.out j) (by omega)
                (by rw [ht2]; omega) q0 q2
              rw [ht2, show ((i + 1 : Nat) : Int) = (i : Int) + 1 by simp, show S' + Q * hT (mOf R) n root r (Tl.take i ++ [k]) = S + wt * sK (stepK (mOf R) n root r (Tl.take i)) (k + 1) by omega] at hcall
              have HC := Lib.hid hcall; have HTT := Lib.hid ht2
              clear hcall ht2 hst hmono hpos hX hS' hbb hlr hln hxe hxb q2 KF2
              go_still_tail 12, (by kernel_rfl)
              clear hb' hca hsl hb2 cx cm cc
              go_wp2_with (go_at_call 60; refine HC.out.mono ?_; rintro e w3 ⟨rfl, Tl', k1, k2, k3, k4, k5⟩; have K4 := Lib.hid k4; have K5 := Lib.hid k5; have K2 := Lib.hid k2; have K3 := Lib.hid k3; have K1 := Lib.hid k1; clear k1 k2 k3 k4 k5)
              have KT2 : Hid (Tl'.take i = Tl.take i) := Lib.hid (by
                have h1 := congrArg (List.take i) K4.out
                rw [HTT.out, List.take_take, Nat.min_eq_left (by omega), List.take_append_of_le_length (by rw [HPL.out]; exact Nat.le_refl _), List.take_take, Nat.min_self] at h1
                exact h1)
              exact ⟨⟨k + 1, Tl', by omega, by simp, K1, K2, K3, KT2, K5⟩, by simp only [intOf]; omega⟩
          · obtain rfl : k = n := by omega
            go_wp2_with fail
            go_end0
            refine ⟨rfl, Tk, KL.out, K0.out, KLT.out, KT.out, ?_⟩
            rw [HH.out]; exact KF.out
end Go.Proofs.Ytghobphnjfgjeaa
