/- Several of my texts in one: WPerms. -/
import Derived.Test.YtooghdnlaonkaaaPw19
import Derived.Test.YtooghdnlaonkaaaPw44
import Derived.Test.YtooghdnlaonkaaaPw45
import Derived.Test.YtooghdnlaonkaaaPw46
import Derived.Test.YtooghdnlaonkaaaPw47
import Derived.Test.YtooghdnlaonkaaaPw48
import Derived.Test.YtooghdnlaonkaaaPw49
/- The walk of PermsOwn. -/
namespace Go.Proofs.Ytooghdnlaonkaaa
open Go.RowKit

def fnV : List Value := [.func (.func 50) #[] #[], .func (.func 51) #[] #[], .func (.func 52) #[] #[], .func (.func 53) #[] #[], .func (.func 54) #[] #[], .func (.func 55) #[] #[], .func (.func 56) #[] #[], .func (.func 57) #[] #[], .func (.func 58) #[] #[], .func (.func 59) #[] #[], .func (.func 60) #[] #[], .func (.func 61) #[] #[], .func (.func 62) #[] #[], .func (.func 63) #[] #[]]
def Ent14 (g : Nat) : Prop := ∀ args w, (callFunc g args).run Try.prog w = .ok (.enter g args) w
theorem fns_at : ∀ k, k < 14 → ∃ g, fnV[k]? = some (.func (.func g) #[] #[]) ∧ Wk g ∧ Ent14 g
  | 0, _ => ⟨50, rfl, wkInv, enters_of Try.func50 (by kernel_rfl) rfl⟩
  | 1, _ => ⟨51, rfl, wkCyc, enters_of Try.func51 (by kernel_rfl) rfl⟩
  | 2, _ => ⟨52, rfl, wkCode, enters_of Try.func52 (by kernel_rfl) rfl⟩
  | 3, _ => ⟨53, rfl, wkNxt, enters_of Try.func53 (by kernel_rfl) rfl⟩
  | 4, _ => ⟨54, rfl, wkLots, enters_of Try.func54 (by kernel_rfl) rfl⟩
  | 5, _ => ⟨55, rfl, wkDeal, enters_of Try.func55 (by kernel_rfl) rfl⟩
  | 6, _ => ⟨56, rfl, wkUp, enters_of Try.func56 (by kernel_rfl) rfl⟩
  | 7, _ => ⟨57, rfl, wkDown, enters_of Try.func57 (by kernel_rfl) rfl⟩
  | 8, _ => ⟨58, rfl, wkSplit, enters_of Try.func58 (by kernel_rfl) rfl⟩
  | 9, _ => ⟨59, rfl, wkBOf, enters_of Try.func59 (by kernel_rfl) rfl⟩
  | 10, _ => ⟨60, rfl, wkBNxt, enters_of Try.func60 (by kernel_rfl) rfl⟩
  | 11, _ => ⟨61, rfl, wkTurn, enters_of Try.func61 (by kernel_rfl) rfl⟩
  | 12, _ => ⟨62, rfl, wkOdd, enters_of Try.func62 (by kernel_rfl) rfl⟩
  | 13, _ => ⟨63, rfl, wkUnl, enters_of Try.func63 (by kernel_rfl) rfl⟩
  | k + 14, h => by omega
theorem fr_maxLen {w0 w : World} {L : List Ent} {T : TypeId} {ad : Option Addr} {n cap : Nat} {xs : List Value} (h : Fr w0 w (⟨T, .slice ad n cap, xs⟩ :: L)) : n ≤ maxLen := by
  obtain ⟨h1, h2, _⟩ := h.full
  omega
set_option maxRecDepth 100000 in
set_option maxHeartbeats 32000000 in
theorem perms_walk (p : List Int) (a : Option Addr) (n ca : Nat) (q : List Int) (b : Option Addr) (m cb : Nat) (w : World)
    (h : Sa w a (ints p)) (hn : p.length = n) (hc : n ≤ ca) (z1 : n * 8 ≤ 140737488351232) (h' : Sa w b (ints q)) (hm : q.length = m) (z2 : m * 8 ≤ 140737488351232) :
    Calls Try.prog 6 #[.slice a n ca, .slice b m cb] w fun e w' => e = .returned (.bool true) ∧ Below w.heap.size w w' := by
  have HA := Lib.hid h; have HN := Lib.hid hn; have HC := Lib.hid hc; have Z1 := Lib.hid z1; have HB := Lib.hid h'; have HM := Lib.hid hm; have Z2 := Lib.hid z2
  have M1 : Hid (n ≤ maxLen) := Lib.hid (by unfold maxLen; omega)
  have M2 : Hid (m ≤ maxLen) := Lib.hid (by unfold maxLen; omega)
  have HP1 := Lib.hid (slCloneG p n a ca)
  have HP2 := Lib.hid (slCloneG q m b cb)
  clear h hn hc z1 h' hm z2
  go_enter Try.func6, Try.ntmps6
  go_wp2_with fail
  refine (perms_any w).mono ?_; rintro e w1 ⟨rfl, hb⟩
  have HB1 := Lib.hid hb
  clear hb
  go_wp2_with fail
  refine (ranks_any w1).mono ?_; rintro e w2 ⟨rfl, hb⟩
  have HB2 := Lib.hid (kin_trans HB1.out hb)
  clear hb HB1
  go_wp2_with fail
  refine (deals_any w2).mono ?_; rintro e w3 ⟨rfl, hb⟩
  have HF3 := Lib.hid ((Fr.start w).keep (kin_trans HB2.out hb))
  clear hb HB2
  go_wp2_with fail
  refine (HP1.out w3 (HA.out.keep HF3.out.bel) HN.out (Nat.le_trans Z1.out (by omega))).mono ?_; rintro e w4 ⟨g1, q1, rfl, -, hf⟩
  have HF4 := Lib.hid (HF3.out.call hf)
  clear hf HF3 HP1
  go_wp2_with fail
  refine (HP2.out w4 (HB.out.keep HF4.out.bel) HM.out (Nat.le_trans Z2.out (by omega))).mono ?_; rintro e w5 ⟨g2, q2, rfl, -, hf⟩
  have HF5 := Lib.hid (HF4.out.call hf)
  clear hf HF4 HP2
  have HT := Lib.hid (fun v (hb : Below w.heap.size w v) => wkTimes p q n m a b ca cb v (HA.out.keep hb) HN.out (HB.out.keep hb) HM.out M1.out M2.out)
  obtain ⟨er, her⟩ : ∃ er, tmE p q = er := ⟨_, rfl⟩
  rw [her] at HT
  clear her
  go_wp2_with fail
  refine (HT.out w5 HF5.out.bel).mono ?_; rintro e w6 ⟨R6, n6, a6, c6, rfl, -, hf, -⟩
  have HS := Lib.hid (spoilI 3 a6 n6 c6 _ (-7) (HF5.out.call hf))
  clear hf HF5
  go_wp2_with fail
  refine HS.out.mono ?_; rintro e w7 ⟨⟨t7, rfl⟩, hf⟩
  have HF7 := Lib.hid hf
  clear hf HS
  obtain ⟨G, hG⟩ : ∃ G, w7.heap.size = G := ⟨_, rfl⟩
  go_wp2_with fail
  have F8 := HF7.out.new 83 fnV.toArray fnV rfl 14 rfl (by omega)
  rw [hG] at F8
  have F8' := F8
  unfold fnV at F8'
  clear F8 HF7
  go_loopw [41] (fun i wr => ∃ k : Nat, k ≤ 14 ∧ i = .int .i64 k ∧ Hid (Fr w wr [⟨83, .slice (some ⟨G, 0, none⟩) 14 14, fnV⟩, ⟨3, .slice g2 m q2, ints q⟩, ⟨3, .slice g1 n q1, ints p⟩])) (fun i _ => 14 - (intOf i).toNat)
  case atStart => exact ⟨0, by omega, rfl, Lib.hid F8'⟩
  case round =>
    obtain ⟨k, hk, rfl, HF⟩ := hrel
    clear F8' hG
    by_cases hlt : k < 14
    · obtain ⟨g, hg, hwk, hen⟩ := fns_at k hlt
      have HW := Lib.hid (fun v (hb : Below w.heap.size w v) => hwk p n a ca v (HA.out.keep hb) HN.out HC.out M1.out)
      obtain ⟨gg, e, _, _, hcell, hz⟩ := HF.out.open (by decide)
      cases e
      have c1 := hcell k (by show k < 14; exact hlt)
      rw [hg] at c1
      clear hcell hz hwk hg
      have HEN : ∀ args w, (callFunc g args).run Try.prog w = .ok (.enter g args) w := hen
      clear hen
      go_wp2_with fail
      refine (HW.out _ HF.out.bel).mono ?_; rintro e v1 ⟨er1, R1, n1, b1, d1, rfl, -, hf, -⟩
      have HS := Lib.hid (spoilI 3 b1 n1 d1 _ (-7) (HF.out.call hf))
      clear hf HF c1
      go_wp2_with fail
      refine HS.out.mono ?_; rintro e v2 ⟨⟨t2, rfl⟩, hf⟩
      have HF2 := Lib.hid hf
      clear hf HS
      have HE := Lib.hid (slEqIB p n a g1 ca q1 v2 (HA.out.keep HF2.out.bel) (HF2.out.get 2 rfl) HN.out M1.out)
      go_wp2_with fail
      refine HE.out.mono ?_; rintro e v3 ⟨rfl, hf⟩
      have HF3 := Lib.hid (HF2.out.keep hf.bel)
      clear hf HF2 HE
      go_wp2_with fail
      refine (HW.out _ HF3.out.bel).mono ?_; rintro e v4 ⟨er4, R4, n4, b4, d4, rfl, hl4, hf, h7⟩
      have HCn := Lib.hid (slCoI R4 n4 b4 d4 (-7) v4 (hf.get 0 rfl) hl4 (fr_maxLen hf))
      have H7 := Lib.hid h7
      have HF4 := Lib.hid (HF3.out.keep hf.bel)
      clear hf HF3 h7 hl4
      go_wp2_with fail
      refine HCn.out.mono ?_; rintro e v5 ⟨bb, rfl, hbb, hf⟩
      have hbf : bb = false := by
        cases bb
        · rfl
        · have := H7.out _ (hbb.1 rfl); omega
      subst hbf
      have HF5 := Lib.hid (HF4.out.keep hf.bel)
      clear hf hbb HCn HF4 H7
      go_wp2_with fail
      go_roundw
      case rel => exact ⟨k + 1, by omega, by go_num, HF5⟩
      case measure => simp only [intOf]; omega
    · obtain rfl : k = 14 := by omega
      clear hlt
      go_wp2_with fail
      refine (HT.out _ HF.out.bel).mono ?_; rintro e v1 ⟨R1, n1, b1, d1, rfl, hl1, hf, h7⟩
      have HL1 := Lib.hid hl1; have H7 := Lib.hid h7; have HMx := Lib.hid (fr_maxLen hf); have HR1 := Lib.hid (hf.get 0 rfl)
      have HF1 := Lib.hid (HF.out.keep hf.bel)
      clear hf HF h7 hl1 HT
      have HE := Lib.hid (slEqIB p n a g1 ca q1 v1 (HA.out.keep HF1.out.bel) (HF1.out.get 2 rfl) HN.out M1.out)
      go_wp2_with fail
      refine HE.out.mono ?_; rintro e v2 ⟨rfl, hf⟩
      have HF2 := Lib.hid (HF1.out.keep hf.bel)
      have HR2 := Lib.hid (HR1.out.keep hf.bel)
      clear hf HF1 HE HR1
      have HE := Lib.hid (slEqIB q m b g2 cb q2 v2 (HB.out.keep HF2.out.bel) (HF2.out.get 1 rfl) HM.out M2.out)
      have g5 : (er == er) = true := beq_self_eq_true _
      go_wp2_with fail
      refine HE.out.mono ?_; rintro e v3 ⟨rfl, hf⟩
      have HF3 := Lib.hid (HF2.out.keep hf.bel)
      have HR3 := Lib.hid (HR2.out.keep hf.bel)
      clear hf HF2 HE HR2
      have HCn := Lib.hid (slCoI R1 n1 b1 d1 (-7) v3 HR3.out HL1.out HMx.out)
      go_wp2_with fail
      refine HCn.out.mono ?_; rintro e v4 ⟨bb, rfl, hbb, hf⟩
      have hbf : bb = false := by
        cases bb
        · rfl
        · have := H7.out _ (hbb.1 rfl); omega
      subst hbf
      have HFZ := Lib.hid (HF3.out.keep hf.bel)
      clear hf hbb HCn HF3
      go_wp2_with fail
      go_ret
      exact ⟨rfl, HFZ.out.bel⟩
theorem perms_row (a : Option Addr) (n ca : Nat) (x : List Int) (b : Option Addr) (m cb : Nat) (y : List Int) (w : World)
    (w0 : IsRow .i64 w a n ca x) (w1 : IsRow .i64 w b m cb y) (s0 : n * 8 ≤ 140737488351232) (s1 : m * 8 ≤ 140737488351232) :
    Calls Try.prog 6 #[.slice a n ca, .slice b m cb] w fun e w' => e = .returned (.bool true) ∧ Below w.heap.size w w' := by
  obtain ⟨h0, l0, -, -, d0, -⟩ := w0.saK
  obtain ⟨h1, l1, -, -, -, -⟩ := w1.saK
  exact perms_walk (x.take n) a n ca (y.take m) b m cb w h0 l0 d0 s0 h1 l1 s1
end Go.Proofs.Ytooghdnlaonkaaa
