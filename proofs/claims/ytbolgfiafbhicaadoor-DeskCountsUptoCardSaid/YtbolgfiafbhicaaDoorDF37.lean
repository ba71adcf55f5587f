/- Several of my texts in one: TabC. -/
import Derived.Test.YtbolgfiafbhicaaDoorDF08
/- Contract of tableau.Count at a shape. -/
namespace Go.Proofs.YtbolgfiafbhicaaDoor
open Go.RowKit

def fctN : Nat → Nat
  | 0 => 1
  | k + 1 => fctN k * (k + 1)
/-- the cells of the first rows -/
def psumL (l : List Int) : Nat → Int
  | 0 => 0
  | i + 1 => psumL l i + nth l i
/-- the hook of a cell, t of the rows below seen -/
def hkN (l : List Int) (i k : Nat) : Nat → Int
  | 0 => nth l i - k
  | t + 1 => hkN l i k t + if (k : Int) < nth l (i + 1 + t) then 1 else 0
def divK (l : List Int) (i : Nat) (v : Int) : Nat → Int
  | 0 => v
  | k + 1 => divK l i v k / hkN l i k (l.length - (i + 1))
def divI (l : List Int) : Nat → Int
  | 0 => (fctN (psumL l l.length).toNat : Int)
  | i + 1 => divK l i (divI l i) (nth l i).toNat
def cntL (l : List Int) : Int := divI l l.length
/-- a shape of no more than 12 cells -/
structure Shp (l : List Int) : Prop where
  one : ∀ i, i < l.length → 1 ≤ nth l i
  down : ∀ i, i + 1 < l.length → nth l (i + 1) ≤ nth l i
  few : ∀ i, i ≤ l.length → psumL l i ≤ 12
theorem psum_ge (l : List Int) (h : Shp l) : ∀ i, i ≤ l.length → (i : Int) ≤ psumL l i
  | 0, _ => by rw [psumL]; omega
  | i + 1, hi => by have := psum_ge l h i (by omega); have := h.one i (by omega); rw [psumL]; omega
theorem fct_bd : ∀ k, k ≤ 12 → 1 ≤ fctN k ∧ fctN k ≤ 479001600 := by decide +kernel
theorem div_bd (v h : Int) (v0 : 0 ≤ v) (h1 : 1 ≤ h) : 0 ≤ v / h ∧ v / h ≤ v := ⟨Int.ediv_nonneg v0 (by omega), Int.ediv_le_self h v0⟩

set_option maxRecDepth 100000 in
set_option maxHeartbeats 8000000 in
theorem tabCount_any (l : List Int) (n : Nat) (a : Option Addr) (cap : Nat) (w : World) (h : Sa w a (ints l)) (hn : l.length = n) (hc : n ≤ cap) (hs : Shp l) :
    Calls Tryd.prog 37 #[.slice a n cap] w fun e w' => e = .returned (.tuple #[.int .i64 (cntL l), .int .i64 0]) ∧ w = w' := by
  have HS := Lib.hid h; have HN := Lib.hid hn; have HH := Lib.hid hs
  have hn12 : n ≤ 12 := by have h1 := psum_ge l hs n (by omega); have h2 := hs.few n (by omega); omega
  have HG := Lib.hid (psum_ge l hs)
  clear h hn hs
  go_enter Tryd.func37, Tryd.ntmps37
  go_wp2_with fail
  go_loop [4, 17] (fun s4 s17 => ∃ i : Nat, i ≤ n ∧ s17 = .int .i64 i ∧ s4 = .int .i64 (psumL l i)) (fun _ s => n - (intOf s).toNat)
  case atStart => exact ⟨0, by omega, rfl, rfl⟩
  case round =>
    obtain ⟨i, hi, rfl, rfl⟩ := hrel
    by_cases hlt : i < n
    · obtain ⟨b0, off, rfl, hb0, cx⟩ := HS.out.int i (by rw [HN.out]; exact hlt)
      have hx1 := HH.out.one i (by rw [HN.out]; exact hlt)
      have hp1 := HG.out i (by rw [HN.out]; omega)
      have hp2 := HH.out.few (i + 1) (by rw [HN.out]; omega)
      have hst : psumL l (i + 1) = psumL l i + nth l i := rfl
      have HDN := Lib.hid (fun j => HH.out.down j)
      obtain ⟨x, hx⟩ : ∃ x, nth l i = x := ⟨_, rfl⟩
      obtain ⟨P, hP⟩ : ∃ P, psumL l i = P := ⟨_, rfl⟩
      rw [hx] at cx hx1 hst
      rw [hP] at hp1 hst ⊢
      rw [hst] at hp2
      have HST := Lib.hid hst; have HX := Lib.hid hx
      have e1 : (0 : Int) ≤ (i : Int) := by omega
      have e2 : (i : Int) < (n : Int) := by omega
      have g1 : decide (x < 1) = false := decide_eq_false (by omega)
      have g2 : decide ((12 : Int) < x) = false := decide_eq_false (by omega)
      have g3 : decide ((12 : Int) < P + x) = false := decide_eq_false (by omega)
      clear hst hP hx hb0
      by_cases hi0 : i = 0
      · subst hi0
        rw [Nat.add_zero] at cx
        go_wp2_with fail
        exact ⟨⟨1, by omega, by simp, by rw [HST.out]⟩, by simp only [intOf]; omega⟩
      · obtain ⟨j, hj⟩ : ∃ j, i = j + 1 := ⟨i - 1, by omega⟩
        obtain ⟨_, _, e, _, cy⟩ := HS.out.int j (by rw [HN.out]; omega)
        cases e
        have hdn := HDN.out j (by rw [HN.out]; omega)
        rw [← hj, HX.out] at hdn
        obtain ⟨y, hy⟩ : ∃ y, nth l j = y := ⟨_, rfl⟩
        rw [hy] at cy hdn
        have g4 : decide ((0 : Int) < (i : Int)) = true := decide_eq_true (by omega)
        have g5 : (i : Int) - 1 = (j : Int) := by omega
        have g6 : (0 : Int) ≤ (j : Int) := by omega
        have g7 : (j : Int) < (n : Int) := by omega
        have g8 : decide (y < x) = false := decide_eq_false (by omega)
        clear hj hy hdn
        go_wp2_with fail
        exact ⟨⟨i + 1, by omega, by simp, by rw [HST.out]⟩, by simp only [intOf]; omega⟩
    · obtain rfl : i = n := by omega
      obtain ⟨N, hN⟩ : ∃ N : Nat, psumL l i = (N : Int) := ⟨(psumL l i).toNat, by have := HG.out i (by rw [HN.out]; exact Nat.le_refl _); omega⟩
      have hN12 : N ≤ 12 := by have := HH.out.few i (by rw [HN.out]; exact Nat.le_refl _); omega
      have HD0 : Hid (divI l 0 = (fctN N : Int)) := Lib.hid (by rw [divI, HN.out, hN]; simp)
      rw [hN]
      clear hN hlt hi
      go_wp2_with fail
      go_loop [7, 8] (fun s7 s8 => ∃ (k : Nat) (v m : Int), 1 ≤ k ∧ k ≤ 12 ∧ (k = 1 ∨ k ≤ N) ∧ s8 = .int .i64 m ∧ s7 = .int .i64 v ∧ m = (k : Int) + 1 ∧ Hid ((fctN k : Int) = v)) (fun _ s => (20 - intOf s).toNat)
      case atStart => exact ⟨1, 1, 2, by omega, by omega, .inl rfl, rfl, rfl, by omega, Lib.hid rfl⟩
      case round =>
        obtain ⟨k, v, m, k1, k2, k3, rfl, rfl, hm, HV⟩ := hrel
        have HM := Lib.hid hm
        by_cases hlt : k + 1 ≤ N
        · have hb := fct_bd (k + 1) (by omega)
          have hst : v * m = ((fctN (k + 1) : Nat) : Int) := by rw [← HV.out, hm, fctN]; simp
          obtain ⟨u, hu⟩ : ∃ u : Nat, fctN (k + 1) = u := ⟨_, rfl⟩
          rw [hu] at hb hst
          have HU := Lib.hid hu
          have g1 : decide (m ≤ (N : Int)) = true := decide_eq_true (by omega)
          have m1 : 2 ≤ m := by omega
          have m2 : m ≤ 13 := by omega
          clear hu hm
          go_wp2_with fail
          exact ⟨⟨k + 1, (u : Int), m + 1, by omega, by omega, .inr hlt, rfl, rfl, by have := HM.out; omega, Lib.hid (by rw [HU.out])⟩, by simp only [intOf]; omega⟩
        · have hv : v = divI l 0 := by
            rw [← HV.out, HD0.out]
            rcases k3 with c | c
            · subst c
              rcases (show N = 0 ∨ N = 1 by omega) with c | c <;> subst c <;> rfl
            · rw [show k = N by omega]
          have g1 : decide (m ≤ (N : Int)) = false := decide_eq_false (by omega)
          have hb0 : 0 ≤ v ∧ v ≤ 479001600 := by have := fct_bd k k2; rw [← HV.out]; omega
          have HVV := Lib.hid hv
          clear hv hm
          go_wp2_with fail
          go_loopw [7, 55] (fun s7 s55 wr => ∃ (r : Nat) (v : Int), r ≤ i ∧ s55 = .int .i64 r ∧ s7 = .int .i64 v ∧ 0 ≤ v ∧ v ≤ 479001600 ∧ Hid (divI l r = v) ∧ w = wr) (fun _ s _ => i - (intOf s).toNat)
          case atStart => exact ⟨0, v, by omega, rfl, rfl, hb0.1, hb0.2, Lib.hid HVV.out.symm, rfl⟩
          case round =>
            obtain ⟨r, v, hr, rfl, rfl, v0, v1, HV, rfl⟩ := hrel
            by_cases hlt2 : r < i
            · obtain ⟨b0, off, rfl, hb0, cx⟩ := HS.out.int r (by rw [HN.out]; exact hlt2)
              have hx1 := HH.out.one r (by rw [HN.out]; exact hlt2)
              have hx2 : nth l r ≤ 12 := by
                have h1 := HH.out.few (r + 1) (by rw [HN.out]; omega)
                have h2 := HG.out r (by rw [HN.out]; omega)
                rw [psumL] at h1; omega
              obtain ⟨X, hX⟩ : ∃ X : Nat, nth l r = (X : Int) := ⟨(nth l r).toNat, by omega⟩
              rw [hX] at cx hx1 hx2
              have hst : divI l (r + 1) = divK l r v X := by rw [divI, HV.out, hX]; rfl
              have HST := Lib.hid hst; have HXX := Lib.hid hX
              obtain ⟨ad', cp', hsl, hsa, hcp'⟩ := slice_fromT 76 3 Tryd.underlying76 intElem intSize (some ⟨b0, off, none⟩) i cap (r + 1) hlt2 hc (ints l) (by rw [ints_len, HN.out])
              have hsl' : ∀ W, Sem.run Tryd.prog (Instr.slice 76 (.slice (some ⟨b0, off, none⟩) i cap) (some (.int .i64 ((r : Int) + 1))) none none) W = .ok (.slice ad' (i - (r + 1)) cp') W := hsl
              have HSA : Hid (Sa w ad' (ints (l.drop (r + 1)))) := Lib.hid (by rw [← ints_drop]; exact hsa _ HS.out)
              obtain ⟨m, hm⟩ : ∃ m, i - (r + 1) = m := ⟨_, rfl⟩
              rw [hm] at hsl'
              have HM : Hid (l.length - (r + 1) = m) := Lib.hid (by rw [HN.out, hm])
              have hm12 : m ≤ 12 := by omega
              have e1 : (0 : Int) ≤ (r : Int) := by omega
              have e2 : (r : Int) < (i : Int) := by omega
              clear hst hX hsl hsa hcp' hm hb0
              go_wp2_with fail
              go_loopw [7, 61] (fun s7 s61 wr => ∃ (k : Nat) (u : Int), k ≤ X ∧ s61 = .int .i64 k ∧ s7 = .int .i64 u ∧ 0 ≤ u ∧ u ≤ 479001600 ∧ Hid (divK l r v k = u) ∧ w = wr) (fun _ s _ => X - (intOf s).toNat)
              case atStart => exact ⟨0, v, by omega, rfl, rfl, v0, v1, Lib.hid rfl, rfl⟩
              case round =>
                obtain ⟨k, u, hk, rfl, rfl, u0, u1, HU, rfl⟩ := hrel
                by_cases hlt3 : k < X
                · have f1 : (k : Int) < (X : Int) := by omega
                  have hh0 : hkN l r k 0 = (X : Int) - (k : Int) := by rw [hkN, HXX.out]
                  have HH0 := Lib.hid hh0
                  clear hh0
                  go_wp2_with fail
                  go_loopw [12, 72] (fun s12 s72 wr => ∃ (t : Nat) (y : Int), t ≤ m ∧ s72 = .int .i64 t ∧ s12 = .int .i64 y ∧ 1 ≤ y ∧ y ≤ 12 + t ∧ Hid (hkN l r k t = y) ∧ w = wr) (fun _ s _ => m - (intOf s).toNat)
                  case atStart => exact ⟨0, _, by omega, rfl, rfl, by omega, by omega, HH0, rfl⟩
                  case round =>
                    obtain ⟨t, y, ht, rfl, rfl, y1, y2, HY, rfl⟩ := hrel
                    by_cases hlt4 : t < m
                    · obtain ⟨b1, o1, rfl, _, cz⟩ := HSA.out.int t (by rw [List.length_drop, HM.out]; exact hlt4)
                      rw [nth_drop] at cz
                      have hst : hkN l r k (t + 1) = y + if (k : Int) < nth l (r + 1 + t) then 1 else 0 := by rw [hkN, HY.out]
                      obtain ⟨z, hz⟩ : ∃ z, nth l (r + 1 + t) = z := ⟨_, rfl⟩
                      rw [hz] at cz hst
                      have j1 : (0 : Int) ≤ (t : Int) := by omega
                      have j2 : (t : Int) < (m : Int) := by omega
                      clear hz
                      by_cases c : (k : Int) < z
                      · rw [if_pos c] at hst
                        have HST2 := Lib.hid hst
                        have g : decide ((k : Int) < z) = true := decide_eq_true c
                        clear hst c
                        go_wp2_with fail
                        exact ⟨⟨t + 1, y + 1, by omega, by simp, rfl, by omega, by omega, HST2, trivial⟩, by simp only [intOf]; omega⟩
                      · rw [if_neg c, Int.add_zero] at hst
                        have HST2 := Lib.hid hst
                        have g : decide ((k : Int) < z) = false := decide_eq_false c
                        clear hst c
                        go_wp2_with fail
                        exact ⟨⟨t + 1, y, by omega, by simp, rfl, by omega, by omega, HST2, trivial⟩, by simp only [intOf]; omega⟩
                    · obtain rfl : t = m := by omega
                      have hd := div_bd u y u0 (by omega)
                      have hst : divK l r v (k + 1) = u / y := by rw [divK, HU.out, HM.out, HY.out]
                      have q1 : u.tdiv y = u / y := Int.tdiv_eq_ediv_of_nonneg u0
                      obtain ⟨q, hq⟩ : ∃ q, u / y = q := ⟨_, rfl⟩
                      rw [hq] at hd hst q1
                      have HST2 := Lib.hid hst
                      have g0 : (y == 0) = false := by rw [beq_eq_false_iff_ne]; omega
                      clear hst
                      go_wp2_with fail
                      exact ⟨⟨k + 1, q, by omega, by simp, rfl, by omega, by omega, HST2, trivial⟩, by simp only [intOf]; omega⟩
                · obtain rfl : k = X := by omega
                  go_wp2_with fail
                  exact ⟨⟨r + 1, u, by omega, by simp, rfl, u0, u1, Lib.hid (by rw [HST.out, HU.out]), trivial⟩, by simp only [intOf]; omega⟩
            · obtain rfl : r = i := by omega
              have hcn : cntL l = v := by unfold cntL; rw [HN.out, HV.out]
              have HCN := Lib.hid hcn
              clear hcn
              go_wp2_with fail
              go_ret2
              exact ⟨by rw [HCN.out]; rfl, rfl⟩
end Go.Proofs.YtbolgfiafbhicaaDoor
