/- Several of my texts in one: Dsk10, WDeskF. -/
import Derived.Test.YtbolgfiafbhicaaDoorDF51
import Derived.Test.YtbolgfiafbhicaaDoorDF50
import Derived.Test.YtbolgfiafbhicaaDoorDF17
import Derived.Deep.CutRange
import Derived.Deep.CutBlock
/- desk.Run. -/
namespace Go.Proofs.YtbolgfiafbhicaaDoor
open Go.RowKit

theorem Hw.newDk {w0 w : World} {H : Nat} {s : HSt} {B : List Big} (h : Hw w0 w H s B) {D : Nat} (hD : w.heap.size = D) : Hw w0 (w.alloc (.cells #[.pointer (some ⟨H, 0, none⟩)] 35)) H s (eDk D H :: B) := by
  obtain ⟨am, cm, al, cl, hf⟩ := h
  exact Hw.into (hf.new 35 #[.pointer (some ⟨H, 0, none⟩)] [.pointer (some ⟨H, 0, none⟩)] rfl D hD 1 rfl (by omega))
theorem Hw.newWd {w0 w : World} {H : Nat} {s : HSt} {B : List Big} (h : Hw w0 w H s B) : Hw w0 w H s (eWd none 0 0 [] :: B) := by
  obtain ⟨am, cm, al, cl, hf⟩ := h
  exact Hw.into (hf.nilSlice 9 1)
def runO (t : ByteArray) : Option (List ByteArray) → Prop
  | none => 4096 < t.size ∨ 60 < (linesB 10 t).length
  | some l => t.size ≤ 4096 ∧ (linesB 10 t).length ≤ 60 ∧ l = runL ⟨[], []⟩ (linesB 10 t)
def RunSaid (t : ByteArray) (w : World) (e : Ending) (w' : World) : Prop :=
  Below w.heap.size w w' ∧ ((runO t none ∧ e = .returned (.tuple #[.slice none 0 0, .int .i64 2])) ∨
    ∃ (l : List ByteArray) (a : Option Addr) (n cap : Nat), runO t (some l) ∧ l.length = n ∧ e = .returned (.tuple #[.slice a n cap, .int .i64 0]) ∧ n ≤ cap ∧ Sa w' a (strV l))
set_option maxRecDepth 100000 in
set_option maxHeartbeats 16000000 in
theorem deskRun (t : ByteArray) (w : World) (hs : t.size < 4294967281) (ht : TabW w) : Calls Tryd.prog 5 #[.string t] w (RunSaid t w) := by
  have HC := Lib.hid (splitC t 10 w hs ht)
  have HT := Lib.hid ht
  obtain ⟨L, hL⟩ : ∃ L, linesB 10 t = L := ⟨_, rfl⟩
  obtain ⟨n, hn⟩ : ∃ n, L.length = n := ⟨_, rfl⟩
  obtain ⟨z, hz⟩ : ∃ z, t.size = z := ⟨_, rfl⟩
  rw [hL, hn] at HC
  have HL := Lib.hid hL; have HN := Lib.hid hn; have HZ := Lib.hid hz
  clear hL hn ht
  go_enter Tryd.func5, Tryd.ntmps5
  go_wp2_with fail
  refine HC.out.mono ?_; rintro e w1 ⟨N, rfl, hf, hsa⟩
  have HF := Lib.hid hf; have HSA := Lib.hid hsa
  clear hf hsa HC
  by_cases hz2 : 4096 < z
  · have HO : Hid (runO t none) := Lib.hid (.inl (by rw [HZ.out]; exact hz2))
    have d1 : decide ((4096 : Int) < (z : Int)) = true := decide_eq_true (by omega)
    go_wp2_with fail
    go_ret2
    exact ⟨HF.out.bel, .inl ⟨HO.out, rfl⟩⟩
  have d1 : decide ((4096 : Int) < (z : Int)) = false := decide_eq_false (by omega)
  by_cases hn2 : 60 < n
  · have HO : Hid (runO t none) := Lib.hid (.inr (by rw [HL.out, HN.out]; exact hn2))
    have d2 : decide ((60 : Int) < (n : Int)) = true := decide_eq_true (by omega)
    go_wp2_with fail
    go_ret2
    exact ⟨HF.out.bel, .inl ⟨HO.out, rfl⟩⟩
  have d2 : decide ((60 : Int) < (n : Int)) = false := decide_eq_false (by omega)
  have HT1 := Lib.hid (HT.out.keep HF.out.bel)
  go_wp2_with fail
  refine (halNewN w1).mono ?_; rintro e w2 ⟨H, rfl, hw⟩
  obtain ⟨D, hD⟩ : ∃ D, w2.heap.size = D := ⟨_, rfl⟩
  have HB := Lib.hid ((hw.newDk hD).newWd)
  have HSA2 := Lib.hid HSA.out
  have HLS : Hid (∀ x ∈ L, x.size ≤ 5000) := Lib.hid (fun x hx => Nat.le_trans (linesB_sz (by rw [HL.out]; exact hx)) (by rw [HZ.out]; omega))
  have HO : Hid (∀ l, l = runL ⟨[], []⟩ L → runO t (some l)) := Lib.hid (fun l h => ⟨by rw [HZ.out]; omega, by rw [HL.out, HN.out]; omega, by rw [HL.out]; exact h⟩)
  clear hw
  go_wp2_with fail
  clear d1 d2 hz HSA HZ HL HT
  go_loopw [6, 24] (fun o i wr => ∃ (k m : Nat) (ad : Option Addr) (cp : Nat) (l : List ByteArray) (st : HSt), k ≤ n ∧ i = .int .i64 k ∧ o = .slice ad m cp ∧ m ≤ k ∧ Hid (l.length = m) ∧ Hid (runL ⟨[], []⟩ L = l ++ runL st (L.drop k)) ∧ Hid (DOk st k) ∧ Hid (Hw w1 wr H st [eWd ad m cp l, eDk D H])) (fun _ i _ => n - (intOf i).toNat)
  case atStart => exact ⟨0, 0, none, 0, [], ⟨[], []⟩, by omega, rfl, rfl, by omega, Lib.hid rfl, Lib.hid rfl, Lib.hid (dok0 0), HB⟩
  case round =>
    clear HB
    obtain ⟨k, m, ad, cp, l, st, hk, rfl, rfl, hm, HLL, HRL, HOK, HW⟩ := hrel
    by_cases hlt : k < n
    · obtain ⟨x, hx⟩ : ∃ x, L[k]? = some x := ⟨_, List.getElem?_eq_getElem (by rw [HN.out]; exact hlt)⟩
      obtain ⟨_, _, hbo, -, x1⟩ := (HSA2.out.keep HW.out.belowN).strA k x hx
      cases hbo
      rw [Nat.zero_add] at x1
      have hdr : L.drop k = x :: L.drop (k + 1) := by
        rw [List.drop_eq_getElem_cons (by rw [HN.out]; exact hlt)]
        rw [List.getElem?_eq_getElem (by rw [HN.out]; exact hlt)] at hx
        cases hx; rfl
      have hxs := HLS.out x (List.mem_of_getElem? hx)
      have d1 : (0 : Int) ≤ (k : Int) := by omega
      have d2 : (k : Int) < (n : Int) := by omega
      have hst := HRL.out
      rw [hdr, runL] at hst
      by_cases hxe : x.toList = []
      · rw [if_pos (by rw [← ByteArray.toList_eq]; exact hxe)] at hst
        have HST := Lib.hid hst
        clear hx hdr hst
        go_wp2_with fail
        go_roundw
        case rel => exact ⟨k + 1, m, ad, cp, l, st, by omega, by go_num, rfl, by omega, HLL, HST, Lib.hid (HOK.out.le (by omega)), HW⟩
        case measure => simp only [intOf]; omega
      · rw [if_neg (by rw [← ByteArray.toList_eq]; exact hxe)] at hst
        have hxf : (x.toList == []) = false := by rw [beq_eq_false_iff_ne]; exact hxe
        have HST := Lib.hid hst
        have HA := Lib.hid (deskAnswer H D st [eWd ad m cp l, eDk D H] k x HW.out HOK.out (by omega) (by simp) hxs HT1.out)
        obtain ⟨s2, y, hsy⟩ : ∃ s2 y, ansR st x = (s2, y) := ⟨_, _, rfl⟩
        have HK2 : Hid (DOk s2 (k + 1)) := Lib.hid (by have := ansR_dok HOK.out x; rw [hsy] at this; exact this)
        have HST2 : Hid (runL ⟨[], []⟩ L = (l ++ [y]) ++ runL s2 (L.drop (k + 1))) := Lib.hid (by rw [HST.out, hsy]; simp)
        have HA2 : Hid (Calls Tryd.prog 12 #[.pointer (some ⟨D, 0, none⟩), .string x] wr fun e w' => e = .returned (.string y) ∧ Hw w1 w' H s2 [eWd ad m cp l, eDk D H]) := Lib.hid (HA.out.mono (fun e w' h => by unfold AnsSaid at h; rw [hsy] at h; exact h))
        clear hx hdr hst HA HST HRL hsy
        go_wp2_with fail
        refine HA2.out.mono ?_; rintro e w3 ⟨rfl, hw3⟩
        obtain ⟨am, cm, al, cl, hf3⟩ := hw3.out
        clear x1 HA2
        go_wp2_with (with_reducible refine at_slot 35 ?_; go_must (refine wpList_pushG rfl _ _ 22 9 (.string ⟨#[]⟩) 1 16 (by kernel_rfl) (by kernel_rfl) rfl (by omega) (by omega) rfl ad m cp (strV l) [.string y] #[.string y] _ rfl hf3 w3.heap.size rfl rfl rfl rfl (by simp [Value.oneCell']) (by omega) ?_); intro ad' cp' w4 hf4 hlt4)
        have HW4 : Hid (Hw w1 w4 H s2 [eWd ad' (m + 1) cp' (l ++ [y]), eDk D H]) := Lib.hid (Hw.into (by unfold eWd; rw [← strV_snoc]; exact hf4))
        clear hf3 hf4 hw3
        go_roundw
        case rel => exact ⟨k + 1, m + 1, ad', cp', l ++ [y], s2, by omega, by go_num, rfl, by omega, Lib.hid (by rw [List.length_append, HLL.out]; rfl), HST2, HK2, HW4⟩
        case measure => simp only [intOf]; omega
    · obtain rfl : k = n := by omega
      have HE := Lib.hid (HO.out l (by rw [HRL.out, List.drop_of_length_le (by rw [HN.out]; exact Nat.le_refl _)]; simp [runL]))
      have HF2 := Lib.hid (HF.out.keep HW.out.belowN).bel
      have HS2 := Lib.hid (HW.out.saN (T := 9) (c := 1) List.mem_cons_self)
      have HCP : Hid (m ≤ cp) := Lib.hid (by
        obtain ⟨am, cm, al, cl, hf3⟩ := HW.out.out
        exact hf3.cap (T := 9) (c := 1) (ad := ad) (xs := strV l) List.mem_cons_self)
      go_wp2_with fail
      go_ret2
      exact ⟨HF2.out, .inr ⟨l, ad, m, cp, HE.out, HLL.out, rfl, HCP.out, HS2.out⟩⟩
end Go.Proofs.YtbolgfiafbhicaaDoor
/- The walk of DeskFront. -/
namespace Go.Proofs.YtbolgfiafbhicaaDoor
open Go.RowKit

theorem runO_or (t : ByteArray) : runO t none ∨ ∃ l, runO t (some l) := by
  by_cases h : 4096 < t.size ∨ 60 < (linesB 10 t).length
  · exact .inl h
  · refine .inr ⟨_, by omega, by omega, rfl⟩
theorem runO_not {t : ByteArray} {l : List ByteArray} (h : runO t (some l)) : ¬ runO t none := by
  obtain ⟨h1, h2, -⟩ := h
  intro h3
  have h3' : 4096 < t.size ∨ 60 < (linesB 10 t).length := h3
  omega
theorem runO_F : runO txtF (some outF) := by
  refine ⟨by decide, ?_, runF.symm⟩
  rw [linesF]; decide
theorem runO_C : runO txtC (some outC) := by
  refine ⟨by decide, ?_, runC.symm⟩
  rw [linesC]; decide
/-- what Run gives of a text of the laws -/
theorem runLit {t : ByteArray} {l : List ByteArray} (n : Nat) (hn : l.length = n) (h : runO t (some l)) (w : World) (hs : t.size < 4294967281) (ht : TabW w) :
    Calls Tryd.prog 5 #[.string t] w fun e w' => ∃ a cap, e = .returned (.tuple #[.slice a n cap, .int .i64 0]) ∧ n ≤ cap ∧ Below w.heap.size w w' ∧ Sa w' a (strV l) := by
  refine (deskRun t w hs ht).mono ?_
  rintro e w' ⟨hb, ⟨h1, -⟩ | ⟨l', a, n', cap, h1, h2, rfl, h3, h4⟩⟩
  · exact absurd h1 (runO_not h)
  · have : l' = l := h1.2.2.trans h.2.2.symm
    subst this
    rw [hn] at h2; subst h2
    exact ⟨a, cap, rfl, h3, hb, h4⟩
theorem runNo {t : ByteArray} (h : runO t none) (w : World) (hs : t.size < 4294967281) (ht : TabW w) :
    Calls Tryd.prog 5 #[.string t] w fun e w' => e = .returned (.tuple #[.slice none 0 0, .int .i64 2]) ∧ Below w.heap.size w w' := by
  refine (deskRun t w hs ht).mono ?_
  rintro e w' ⟨hb, ⟨h1, rfl⟩ | ⟨l', a, n', cap, h1, h2, rfl, -, h4⟩⟩
  · exact ⟨rfl, hb⟩
  · exact absurd h (runO_not h1)
theorem strInfoT : (Tryd.prog.info? 9).map (fun i => i.size) = some 1 := by kernel_rfl
theorem slice_toS (ad : Option Addr) (n cap k : Nat) (hk : k ≤ n) (hc : n ≤ cap) (W : World) :
    Sem.run Tryd.prog (Instr.slice 22 (.slice ad n cap) none (some (.int .i64 (k : Int))) none) W = .ok (.slice ad k cap) W := by
  have hE : Tryd.prog.elem 22 = 9 := by kernel_rfl
  have ht : Tryd.prog.underlying 22 = some (.slice (Tryd.prog.elem 22)) := by kernel_rfl
  have hsz : ∀ W, Sem.run Tryd.prog (sizeOf (Tryd.prog.elem 22)) W = .ok 1 W := fun W => by
    rw [hE]
    cases hi : Tryd.prog.info? 9 with
    | none => have := strInfoT; rw [hi] at this; cases this
    | some i => have := strInfoT; rw [hi] at this; simp at this; simp [sizeOf, typeInfo, go_sem, hi, this]
  rw [run_slice_h W 22 ad n cap ht .i64 k (by omega) (by omega), hsz]
  cases ad with
  | none => simp [Result.andThen, sliced]
  | some p =>
    obtain ⟨b, o, f⟩ := p
    cases f <;> simp [Result.andThen, sliced, Addr.add]
set_option maxRecDepth 100000 in
set_option maxHeartbeats 16000000 in
theorem walkF (a b : ByteArray) (w : World) (ha : a.size ≤ 1048576) (hb : b.size ≤ 1048576) (ht : TabW w) :
    Calls Tryd.prog 3 #[.string a, .string b] w fun e w' => e = .returned (.bool true) ∧ Below w.heap.size w w' := by
  have HL := Lib.hid (runLit 7 rfl runO_F w (by decide) ht)
  unfold txtF at HL
  have HT := Lib.hid ht
  clear ht
  go_enter Tryd.func3, Tryd.ntmps3
  go_wp2_with fail
  refine HL.out.mono ?_; rintro e w1 ⟨la, lc, rfl, -, hbl, hsa⟩
  have HB1 := Lib.hid hbl; have HS1 := Lib.hid hsa
  clear hbl hsa HL
  have hf1 := (Fr.start w1).new 9 #[.string ⟨#[111, 107]⟩, .string ⟨#[111, 107]⟩, .string ⟨#[98, 32, 49]⟩, .string ⟨#[111, 107]⟩, .string ⟨#[97, 32, 49]⟩, .string ⟨#[101, 114, 114, 111, 114, 32, 49, 48]⟩, .string ⟨#[58, 97, 32, 98]⟩] (strV outF) rfl 7 rfl (by omega)
  have HE := Lib.hid (slEqS outF outF 7 7 la (some ⟨w1.heap.size, 0, none⟩) lc 7 _ (HS1.out.keep hf1.bel) (hf1.get 0 rfl) rfl rfl (by decide) (by decide))
  rw [show decide (outF = outF) = true from decide_eq_true rfl] at HE
  have HB2 := Lib.hid ((Fr.start w).keep HB1.out |>.keep hf1.bel)
  clear hf1 HS1
  go_wp2_with fail
  refine HE.out.mono ?_; rintro e W ⟨rfl, hfe⟩
  have HB3 := Lib.hid (HB2.out.keep hfe.bel)
  have HTW := Lib.hid (HT.out.keep HB3.out.bel)
  clear HE HB1 HT HB2 hfe
  obtain ⟨t, ht⟩ : ∃ t, a ++ ⟨#[10]⟩ ++ b = t := ⟨_, rfl⟩
  have htb : t = bs (a.data.toList ++ 10 :: b.data.toList) := by
    rw [← ht, show (⟨#[10]⟩ : ByteArray) = bs [10] from rfl, ← bs_of a, ← bs_of b, bs_app, bs_app, bs_data, bs_data]; simp
  have hts : t.size = a.size + 1 + b.size := by
    rw [htb, bs_size]; simp; omega
  have hta : linesB 10 t = linesB 10 a ++ linesB 10 b := by rw [htb, linesB_app]
  have HTA := Lib.hid hta; have HTS := Lib.hid hts
  clear hta htb
  rcases runO_or t with hr | ⟨l, hl⟩
  · have HR := Lib.hid (runNo hr W (by omega) HTW.out)
    clear hr
    go_wp2_with fail
    refine HR.out.mono ?_; rintro e w3 ⟨rfl, hb3⟩
    have HB4 := Lib.hid (HB3.out.keep hb3)
    have HT4 := Lib.hid (HTW.out.keep hb3)
    clear hb3 HR
    rcases runO_or a with hr | ⟨m, hm⟩
    · have HR := Lib.hid (runNo hr w3 (by omega) HT4.out)
      clear hr
      go_wp2_with fail
      refine HR.out.mono ?_; rintro e w4 ⟨rfl, hb4⟩
      have HB5 := Lib.hid (HB4.out.keep hb4)
      clear hb4 HR
      go_wp2_with fail
      go_ret
      exact ⟨rfl, HB5.out.bel⟩
    · have HR := Lib.hid (runLit m.length rfl hm w3 (by omega) HT4.out)
      clear hm
      go_wp2_with fail
      refine HR.out.mono ?_; rintro e w4 ⟨ma, mc, rfl, -, hb4, -⟩
      have HB5 := Lib.hid (HB4.out.keep hb4)
      clear hb4 HR
      go_wp2_with fail
      go_ret
      exact ⟨rfl, HB5.out.bel⟩
  · have hm : runO a (some (runL ⟨[], []⟩ (linesB 10 a))) := by
      obtain ⟨h1, h2, -⟩ := hl
      rw [HTA.out, List.length_append] at h2
      exact ⟨by omega, by omega, rfl⟩
    have hl2 : l = runL ⟨[], []⟩ (linesB 10 a) ++ runL (runH ⟨[], []⟩ (linesB 10 a)) (linesB 10 b) := by rw [hl.2.2, HTA.out, runL_app]
    obtain ⟨m, hme⟩ : ∃ m, runL ⟨[], []⟩ (linesB 10 a) = m := ⟨_, rfl⟩
    rw [hme] at hm hl2
    obtain ⟨r, hre⟩ : ∃ r, runL (runH ⟨[], []⟩ (linesB 10 a)) (linesB 10 b) = r := ⟨_, rfl⟩
    rw [hre] at hl2
    subst hl2
    obtain ⟨nl, hnl⟩ : ∃ nl, (m ++ r).length = nl := ⟨_, rfl⟩
    obtain ⟨nm, hnm⟩ : ∃ nm, m.length = nm := ⟨_, rfl⟩
    have hle : nm ≤ nl := by rw [← hnl, ← hnm, List.length_append]; omega
    have hll : nl ≤ 1000 := by
      have h2 := hl.2.1
      rw [← hnl, hl.2.2, runL_len]
      exact Nat.le_trans (List.length_filter_le _ _) (by omega)
    have HR := Lib.hid (runLit nl hnl hl W (by omega) HTW.out)
    have HM := Lib.hid hm; have HNL := Lib.hid hnl; have HNM := Lib.hid hnm
    clear hm hl hme hre hnl hnm
    go_wp2_with fail
    refine HR.out.mono ?_; rintro e w3 ⟨la2, lc2, rfl, hcl, hb3, hs3⟩
    have HB4 := Lib.hid (HB3.out.keep hb3)
    have HT4 := Lib.hid (HTW.out.keep hb3)
    have HS3 := Lib.hid hs3
    have HR2 := Lib.hid (runLit nm HNM.out HM.out w3 (by omega) HT4.out)
    clear hb3 HR hs3
    go_wp2_with fail
    refine HR2.out.mono ?_; rintro e w4 ⟨ma, mc, rfl, -, hb4, hs4⟩
    have HB5 := Lib.hid (HB4.out.keep hb4)
    have hst := (HS3.out.keep hb4).take nm
    have hcut : (strV (m ++ r)).take nm = strV m := by rw [← HNM.out]; unfold strV; rw [List.map_append, ← List.length_map (f := fun s : ByteArray => Value.string s), List.take_left]
    rw [hcut] at hst
    have HS4 := Lib.hid hs4; have HST := Lib.hid hst
    clear hb4 HR2 hs4 hst hcut
    have hsl := slice_toS la2 nl lc2 nm hle hcl
    have d1 : decide ((nm : Int) ≤ (nl : Int)) = true := decide_eq_true (by omega)
    have HQ := Lib.hid (slEqS m m nm nm ma la2 mc lc2 w4 HS4.out HST.out HNM.out HNM.out (by unfold maxLen; omega) (by unfold maxLen; omega))
    rw [show decide (m = m) = true from decide_eq_true rfl] at HQ
    clear HS4 HST HS3
    go_wp2_with fail
    refine HQ.out.mono ?_; rintro e w5 ⟨rfl, hfe⟩
    have HB6 := Lib.hid (HB5.out.keep hfe.bel)
    clear hfe HQ
    go_wp2_with fail
    go_ret
    exact ⟨rfl, HB6.out.bel⟩
end Go.Proofs.YtbolgfiafbhicaaDoor
