/- The law DeskCounts holds, for every input whose reading is of bulk at most 1048576: the call returns true and leaves its arguments as they were; the tables of Go's library that it reads hold what their text lays. -/
import Derived.Test.YtbolgfiafbhicaaDoorCards
import Derived.Test.YtbolgfiafbhicaaDoorTie
import Derived.Test.YtbolgfiafbhicaaDoorDF52
import Derived.WalkKit
import Derived.ProofKit
import Derived.OpenShut
import Derived.ShutString
import Derived.ChangeOld
import Derived.Below
import Derived.Lib.SmallJoins
import Derived.JoinedCond
import Derived.Deep.DeepHandedRow
import Derived.Lib.LaidTab
import Derived.Stop.LaidErr
namespace Go.Proofs.YtbolgfiafbhicaaDoor
open Go.RowKit

/-- every byte stands above the control bytes -/
def Hi (l : List UInt8) : Prop := ∀ c ∈ l, 32 ≤ c.toNat
theorem Hi.app {a b : List UInt8} (ha : Hi a) (hb : Hi b) : Hi (a ++ b) := fun c hc => by
  rcases List.mem_append.1 hc with h | h
  · exact ha c h
  · exact hb c h
theorem Hi.cons {x : UInt8} {b : List UInt8} (hx : 32 ≤ x.toNat) (hb : Hi b) : Hi (x :: b) := fun c hc => by
  rcases List.mem_cons.1 hc with rfl | h
  · exact hx
  · exact hb c h
theorem Hi.nil : Hi [] := fun c hc => by cases hc
theorem hi_dec (u : Nat) : Hi (Lib.decDigits u) := by
  induction u using Nat.strongRecOn with
  | _ u ih =>
    rw [Lib.decDigits]
    split
    · intro c hc
      obtain rfl := List.mem_singleton.1 hc
      rw [UInt8.toNat_ofNat']
      omega
    · refine (ih (u / 10) (by omega)).app ?_
      intro c hc
      obtain rfl := List.mem_singleton.1 hc
      rw [UInt8.toNat_ofNat']
      omega
theorem hi_itoa (x : Int) : Hi (Lib.itoa x) := by
  unfold Lib.itoa
  split
  · exact Hi.cons (by decide) (hi_dec _)
  · exact hi_dec _
/-- what an answer looks like -/
def Fine (b : ByteArray) : Prop := b.data.toList ≠ [] ∧ Hi b.data.toList
def FineO (o : Ou) : Prop := ∀ b, o = .ok b → Fine b
theorem FineO.errF (e : Int) : FineO (.error e) := fun b h => by cases h
theorem FineO.okF {b : ByteArray} (h : Fine b) : FineO (.ok b) := fun b' h' => by cases h'; exact h
theorem fine_list (l : List Int) : Fine (listB l) := by
  refine ⟨by unfold listB; rw [bs_data]; simp, ?_⟩
  unfold listB
  rw [bs_data]
  refine Hi.app ?_ (Hi.cons (by decide) Hi.nil)
  unfold listL
  intro c hc
  obtain ⟨x, -, hx⟩ := List.mem_flatMap.1 hc
  exact (Hi.app (hi_itoa x) (Hi.cons (by decide) Hi.nil)) c hx
theorem hi_nest : ∀ r h k, Hi (atN r h k)
  | 0, _, _ => Hi.nil
  | r + 1, h, k => by
    rw [atN]
    split
    · exact Hi.cons (by decide) (hi_nest _ _ _)
    · exact Hi.cons (by decide) (hi_nest _ _ _)
theorem fine_ask (w : ByteArray) (l : List ByteArray) : FineO (askR w l) := by
  unfold askR
  split
  · unfold rankA
    cases numsB l with
    | none => exact FineO.errF _
    | some p =>
      rw [rankO]
      split
      · exact FineO.okF (fine_list _)
      · exact FineO.errF _
  split
  · unfold orderA orderO
    split
    · split
      · exact FineO.okF (fine_list _)
      · exact FineO.errF _
    · exact FineO.errF _
  split
  · unfold turnA
    cases numsB l with
    | none => exact FineO.errF _
    | some p =>
      rw [turnO]
      split
      · exact FineO.okF (fine_list _)
      · exact FineO.errF _
  split
  · unfold shapA
    cases numsB l with
    | none => exact FineO.errF _
    | some p =>
      rw [shapO]
      split
      · exact FineO.okF (fine_list _)
      · exact FineO.errF _
  split
  · unfold nestA nestO
    split
    · split
      · refine FineO.okF ⟨by rw [bs_data]; simp, ?_⟩
        rw [bs_data]
        exact Hi.cons (by decide) (hi_nest _ _ _)
      · exact FineO.errF _
    · exact FineO.errF _
  split
  · unfold sumA sumO
    split
    · split
      · exact FineO.errF _
      split
      · exact FineO.errF _
      · unfold addA
        split
        · exact FineO.okF (fine_list _)
        · exact FineO.errF _
    · exact FineO.errF _
  · exact FineO.errF _
theorem hi_named {s : ByteArray} (h : namedB s = true) : Hi s.data.toList := by
  unfold namedB at h
  simp only [Bool.and_eq_true, decide_eq_true_eq] at h
  intro c hc
  have := List.all_eq_true.1 h.1.1 c hc
  unfold lowB at this
  simp only [Bool.and_eq_true, decide_eq_true_eq] at this
  omega
theorem wonS_hi {s : HSt} (hnb : ∀ m ∈ s.M, namedB m.nm = true) (r : Int × Int) : Hi (wonS s r).nm.data.toList := by
  unfold wonS
  split
  · split
    · rename_i m hm
      exact hi_named (hnb m (List.mem_of_getElem? hm))
    · exact Hi.nil
  · exact Hi.nil
theorem doS_hi {s : HSt} (hnb : ∀ m ∈ s.M, namedB m.nm = true) (k n : Int) (nm tn : ByteArray) : Hi (doS s k n nm tn).nm.data.toList := by
  unfold doS
  split
  · exact wonS_hi hnb _
  split
  · exact wonS_hi hnb _
  split
  · split
    · exact Hi.nil
    rename_i hn
    have hh := hi_named (by simpa using hn : namedB nm = true)
    split
    · exact Hi.nil
    split
    · unfold atSH
      split
      · exact Hi.nil
      split
      · exact Hi.nil
      split
      · exact hh
      · exact hh
    · exact Hi.nil
  · exact Hi.nil
theorem fine_deed {s : HSt} (hnb : ∀ m ∈ s.M, namedB m.nm = true) (k : Int) (l : List ByteArray) : FineO (deedR s k l).2 := by
  unfold deedR
  split
  · exact FineO.errF _
  · show FineO (tellB k _)
    unfold tellB
    split
    · exact FineO.errF _
    split
    · refine FineO.okF ⟨by decide, ?_⟩
      unfold okB
      rw [bs_data]
      exact Hi.cons (by decide) (Hi.cons (by decide) Hi.nil)
    · refine FineO.okF ⟨by rw [bs_data]; simp, ?_⟩
      rw [bs_data]
      exact (doS_hi hnb _ _ _ _).app (Hi.cons (by decide) (hi_itoa _))
theorem hi_join : ∀ (l : List ByteArray), (∀ x ∈ l, Hi x.data.toList) → Hi (Lib.join (l.map (·.data.toList)) [32])
  | [], _ => by rw [List.map_nil, Lib.join_nil]; exact Hi.nil
  | x :: r, h => by
    rw [List.map_cons, Lib.join_cons]
    refine (h x List.mem_cons_self).app ?_
    unfold Lib.joinTail
    intro c hc
    obtain ⟨y, hy, hcy⟩ := List.mem_flatten.1 hc
    obtain ⟨z, hz, rfl⟩ := List.mem_map.1 hy
    obtain ⟨q, hq, rfl⟩ := List.mem_map.1 hz
    exact (Hi.app (Hi.cons (by decide) Hi.nil) (h q (List.mem_cons_of_mem _ hq))) c hcy
theorem fine_ans {s : HSt} (hnb : ∀ m ∈ s.M, namedB m.nm = true) (l : List ByteArray) : FineO (ansO s l).2 := by
  cases l with
  | nil => exact FineO.errF _
  | cons w l =>
    rw [ansO]
    by_cases h1 : l = [] ∧ w = wNames
    · rw [if_pos h1]
      refine FineO.okF ⟨by rw [bs_data]; simp, ?_⟩
      rw [bs_data]
      refine Hi.cons (by decide) (hi_join _ fun x hx => ?_)
      unfold nmsM at hx
      obtain ⟨m, hm, rfl⟩ := List.mem_map.1 hx
      exact hi_named (hnb m hm)
    rw [if_neg h1]
    by_cases h2 : kindB w = 0
    · rw [if_pos h2]; exact fine_ask _ _
    rw [if_neg h2]
    by_cases h3 : ((l.length + 1 : Nat) : Int) ≠ wantB w
    · rw [if_pos h3]; exact FineO.errF _
    · rw [if_neg h3]; exact fine_deed hnb _ _
theorem fine_ouB {o : Ou} (h : FineO o) : Fine (ouB o) := by
  cases o with
  | ok b => exact h b rfl
  | error e =>
    refine ⟨by show (bs _).data.toList ≠ []; rw [bs_data]; simp, ?_⟩
    show Hi (bs _).data.toList
    rw [bs_data]
    exact Hi.app (Hi.cons (by decide) (Hi.cons (by decide) (Hi.cons (by decide) (Hi.cons (by decide) (Hi.cons (by decide) (Hi.cons (by decide) Hi.nil)))))) (hi_itoa _)
theorem fine_run : ∀ (l : List ByteArray) (s : HSt) (K : Nat), DOk s K → ∀ x ∈ runL s l, Fine x
  | [], s, K, _, x, hx => by rw [runL] at hx; cases hx
  | y :: r, s, K, h, x, hx => by
    rw [runL] at hx
    split at hx
    · exact fine_run r s K h x hx
    · rcases List.mem_cons.1 hx with rfl | hx
      · exact fine_ouB (fine_ans h.nm _)
      · exact fine_run r _ (K + 1) (ansR_dok h y) x hx
theorem fine_ix {b : ByteArray} (h : Fine b) : Lib.indexByte b.data.toList 10 = -1 := by
  have hh := h.2
  revert hh
  generalize b.data.toList = l
  intro hh
  induction l with
  | nil => rfl
  | cons c l ih =>
    have h1 := hh c List.mem_cons_self
    have h2 := ih (fun x hx => hh x (List.mem_cons_of_mem _ hx))
    rw [Lib.indexByte]
    have hc : c ≠ 10 := fun e => by subst e; exact absurd h1 (by decide)
    simp [hc, h2]
end Go.Proofs.YtbolgfiafbhicaaDoor
namespace Go.Proofs.YtbolgfiafbhicaaDoor
open Go.RowKit

theorem cls (s : ByteArray) (h : Fine s) (w : World) : Calls Tryd.prog 9 #[.string s] w fun e w' => e = .returned (.bool false) ∧ w' = w := by
  have hc := Tryd.strings_Contains_one s 10 w
  rw [fine_ix h] at hc
  have HC := Lib.hid hc
  have hsf : (s.toList == []) = false := by rw [beq_eq_false_iff_ne, ByteArray.toList_eq]; exact h.1
  clear hc h
  go_enter Tryd.func9, Tryd.ntmps9
  go_wp2_with fail
  refine HC.out.mono ?_; rintro e w2 ⟨rfl, rfl⟩
  go_wp2_with fail
  go_ret
  exact ⟨rfl, rfl⟩
set_option maxRecDepth 100000 in
set_option maxHeartbeats 4000000 in
theorem idxStr (l : List ByteArray) (n : Nat) (a : Option Addr) (cap : Nat) (w : World) (h : Sa w a (strV l)) (hn : l.length = n) (hm : n ≤ maxLen) (hf : ∀ x ∈ l, Fine x) :
    Calls Tryd.prog 14 #[.slice a n cap, .func (.func 9) #[] #[]] w fun e w' => e = .returned (.int .i64 (-1)) ∧ Fr w w' [] := by
  have HN := Lib.hid hn; have HS := Lib.hid h; have HX := Lib.hid hf
  unfold maxLen at hm
  clear hn h hf
  go_enter Tryd.func14, Tryd.ntmps14
  go_wp2_with fail
  go_loopw [8] (fun q wr => ∃ k : Nat, k ≤ n ∧ q = .int .i64 k ∧ w = wr) (fun q _ => n - (intOf q).toNat)
  case atStart => exact ⟨0, by omega, rfl, rfl⟩
  case round =>
    obtain ⟨k, hk, rfl, rfl⟩ := hrel
    by_cases hlt : k < n
    · obtain ⟨x, hx⟩ : ∃ x, l[k]? = some x := ⟨_, List.getElem?_eq_getElem (by rw [HN.out]; exact hlt)⟩
      obtain ⟨b, off, rfl, -, x1⟩ := HS.out.strA k x hx
      have HC := Lib.hid (cls x (HX.out x (List.mem_of_getElem? hx)) w)
      have d1 : (0 : Int) ≤ (k : Int) := by omega
      have d2 : (k : Int) < (n : Int) := by omega
      clear hx
      go_wp2_with fail
      refine HC.out.mono ?_; rintro e w2 ⟨rfl, rfl⟩
      go_wp2_with fail
      go_roundw
      case rel => exact ⟨k + 1, by omega, by go_num, by simp⟩
      case measure => simp only [intOf]; omega
    · obtain rfl : k = n := by omega
      go_wp2_with fail
      go_ret
      exact ⟨rfl, Fr.start _⟩
theorem hasStr (l : List ByteArray) (n : Nat) (a : Option Addr) (cap : Nat) (w : World) (h : Sa w a (strV l)) (hn : l.length = n) (hm : n ≤ maxLen) (hf : ∀ x ∈ l, Fine x) :
    Calls Tryd.prog 8 #[.slice a n cap, .func (.func 9) #[] #[]] w fun e w' => e = .returned (.bool false) ∧ Fr w w' [] := by
  have HC := Lib.hid (idxStr l n a cap w h hn hm hf)
  clear h hn hf
  go_enter Tryd.func8, Tryd.ntmps8
  go_wp2_with fail
  refine HC.out.mono ?_; rintro e w2 ⟨rfl, hf⟩
  have HF := Lib.hid hf
  clear hf
  go_wp2_with fail
  go_ret
  exact ⟨rfl, HF.out⟩
set_option maxRecDepth 100000 in
set_option maxHeartbeats 16000000 in
theorem walkC (t : ByteArray) (w : World) (hs : t.size ≤ 1048576) (ht : TabW w) :
    Calls Tryd.prog 4 #[.string t] w fun e w' => e = .returned (.bool true) ∧ Below w.heap.size w w' := by
  have HL := Lib.hid (runLit 6 rfl runO_C w (by decide) ht)
  unfold txtC at HL
  have HT := Lib.hid ht
  clear ht
  go_enter Tryd.func4, Tryd.ntmps4
  go_wp2_with fail
  refine HL.out.mono ?_; rintro e w1 ⟨la, lc, rfl, -, hbl, hsa⟩
  have HB1 := Lib.hid hbl; have HS1 := Lib.hid hsa
  clear hbl hsa HL
  have hf1 := (Fr.start w1).new 9 #[.string ⟨#[51, 32, 46]⟩, .string ⟨#[49, 32, 50, 32, 48, 32, 46]⟩, .string ⟨#[50, 32, 49, 32, 49, 32, 46]⟩, .string ⟨#[50, 32, 46]⟩, .string ⟨#[53, 32, 54, 32, 46]⟩, .string ⟨#[58, 40, 40, 41, 40, 41, 41]⟩] (strV outC) rfl 6 rfl (by omega)
  have HE := Lib.hid (slEqS outC outC 6 6 la (some ⟨w1.heap.size, 0, none⟩) lc 6 _ (HS1.out.keep hf1.bel) (hf1.get 0 rfl) rfl rfl (by decide) (by decide))
  rw [show decide (outC = outC) = true from decide_eq_true rfl] at HE
  have HB2 := Lib.hid ((Fr.start w).keep HB1.out |>.keep hf1.bel)
  clear hf1 HS1
  go_wp2_with fail
  refine HE.out.mono ?_; rintro e W ⟨rfl, hfe⟩
  have HB3 := Lib.hid (HB2.out.keep hfe.bel)
  have HTW := Lib.hid (HT.out.keep HB3.out.bel)
  clear HE HB1 HT HB2 hfe
  obtain ⟨L, hL⟩ : ∃ L, linesB 10 t = L := ⟨_, rfl⟩
  obtain ⟨n, hn⟩ : ∃ n, L.length = n := ⟨_, rfl⟩
  have hn1 : n ≤ 1048577 := by have := linesB_ln 10 t; rw [hL, hn] at this; omega
  have HSP := Lib.hid (fun (V : World) (hV : TabW V) => splitC t 10 V (by omega) hV)
  rw [hL, hn] at HSP
  have HLL := Lib.hid hL; have HN := Lib.hid hn
  clear hL hn
  rcases runO_or t with hr | ⟨l, hl⟩
  · have HR := Lib.hid (runNo hr W (by omega) HTW.out)
    clear hr
    go_wp2_with fail
    refine HR.out.mono ?_; rintro e w3 ⟨rfl, hb3⟩
    have HB4 := Lib.hid (HB3.out.keep hb3)
    have HT4 := Lib.hid (HTW.out.keep hb3)
    clear hb3 HR
    go_wp2_with fail
    refine (HSP.out _ HT4.out).mono ?_; rintro e w4 ⟨N, rfl, hf4, hsa⟩
    have HB5 := Lib.hid (HB4.out.keep hf4.bel); have HSA := Lib.hid hsa
    clear hf4 hsa HSP
    go_wp2_with fail
    go_loopw [7, 30] (fun c i wr => ∃ (k m : Nat), k ≤ n ∧ i = .int .i64 k ∧ c = .int .i64 m ∧ m ≤ k ∧ Hid (m = ((L.take k).filter keepW).length) ∧ w4 = wr) (fun _ i _ => n - (intOf i).toNat)
    case atStart => exact ⟨0, 0, by omega, rfl, rfl, by omega, Lib.hid rfl, rfl⟩
    case round =>
      obtain ⟨k, m, hk, rfl, rfl, hm, HK, rfl⟩ := hrel
      by_cases hlt : k < n
      · obtain ⟨x, hx⟩ : ∃ x, L[k]? = some x := ⟨_, List.getElem?_eq_getElem (by rw [HN.out]; exact hlt)⟩
        obtain ⟨_, _, hbo, -, x1⟩ := HSA.out.strA k x hx
        cases hbo
        rw [Nat.zero_add] at x1
        have htk : L.take (k + 1) = L.take k ++ [x] := by rw [List.take_add_one, hx]; rfl
        have d1 : (0 : Int) ≤ (k : Int) := by omega
        have d2 : (k : Int) < (n : Int) := by omega
        by_cases hxe : x.toList = []
        · have HK2 : Hid (m = ((L.take (k + 1)).filter keepW).length) := Lib.hid (by rw [htk, List.filter_append, List.filter_cons_of_neg (by unfold keepW; rw [← ByteArray.toList_eq, hxe]; simp), List.length_append, ← HK.out]; simp)
          clear hx htk
          go_wp2_with fail
          go_roundw
          case rel => exact ⟨k + 1, m, by omega, by go_num, rfl, by omega, HK2, by simp⟩
          case measure => simp only [intOf]; omega
        · have HK2 : Hid (m + 1 = ((L.take (k + 1)).filter keepW).length) := Lib.hid (by rw [htk, List.filter_append, List.filter_cons_of_pos (by unfold keepW; rw [← ByteArray.toList_eq]; simpa using hxe), List.length_append, ← HK.out]; simp)
          have hxf : (x.toList == []) = false := by rw [beq_eq_false_iff_ne]; exact hxe
          clear hx htk
          go_wp2_with fail
          go_roundw
          case rel => exact ⟨k + 1, m + 1, by omega, by go_num, by go_num, by omega, HK2, by simp⟩
          case measure => simp only [intOf]; omega
      · obtain rfl : k = n := by omega
        go_wp2_with fail
        go_ret
        exact ⟨rfl, HB5.out.bel⟩
  · obtain ⟨nl, hnl⟩ : ∃ nl, l.length = nl := ⟨_, rfl⟩
    have hll : nl = (L.filter keepW).length := by
      rw [← hnl, hl.2.2, HLL.out, runL_len]; rfl
    have hfi : ∀ x ∈ l, Fine x := fun x hx => fine_run (linesB 10 t) ⟨[], []⟩ 0 (dok0 0) x (by rw [← hl.2.2]; exact hx)
    have hn60 : nl ≤ 60 := by
      rw [hll]
      have := hl.2.1
      rw [HLL.out] at this
      exact Nat.le_trans (List.length_filter_le _ _) this
    have HR := Lib.hid (runLit nl hnl hl W (by omega) HTW.out)
    have HLF := Lib.hid hll; have HNL := Lib.hid hnl; have HFI := Lib.hid hfi
    clear hl hll hfi hnl
    go_wp2_with fail
    refine HR.out.mono ?_; rintro e w3 ⟨la2, lc2, rfl, hcl, hb3, hs3⟩
    have HB4 := Lib.hid (HB3.out.keep hb3)
    have HT4 := Lib.hid (HTW.out.keep hb3)
    have HS3 := Lib.hid hs3
    clear hb3 HR hs3
    go_wp2_with fail
    refine (HSP.out _ HT4.out).mono ?_; rintro e w4 ⟨N, rfl, hf4, hsa⟩
    have HB5 := Lib.hid (HB4.out.keep hf4.bel); have HSA := Lib.hid hsa
    have HS4 := Lib.hid (HS3.out.keep hf4.bel)
    clear hf4 hsa HSP HS3
    go_wp2_with fail
    go_loopw [7, 30] (fun c i wr => ∃ (k m : Nat), k ≤ n ∧ i = .int .i64 k ∧ c = .int .i64 m ∧ m ≤ k ∧ Hid (m = ((L.take k).filter keepW).length) ∧ w4 = wr) (fun _ i _ => n - (intOf i).toNat)
    case atStart => exact ⟨0, 0, by omega, rfl, rfl, by omega, Lib.hid rfl, rfl⟩
    case round =>
      obtain ⟨k, m, hk, rfl, rfl, hm, HK, rfl⟩ := hrel
      by_cases hlt : k < n
      · obtain ⟨x, hx⟩ : ∃ x, L[k]? = some x := ⟨_, List.getElem?_eq_getElem (by rw [HN.out]; exact hlt)⟩
        obtain ⟨_, _, hbo, -, x1⟩ := HSA.out.strA k x hx
        cases hbo
        rw [Nat.zero_add] at x1
        have htk : L.take (k + 1) = L.take k ++ [x] := by rw [List.take_add_one, hx]; rfl
        have d1 : (0 : Int) ≤ (k : Int) := by omega
        have d2 : (k : Int) < (n : Int) := by omega
        by_cases hxe : x.toList = []
        · have HK2 : Hid (m = ((L.take (k + 1)).filter keepW).length) := Lib.hid (by rw [htk, List.filter_append, List.filter_cons_of_neg (by unfold keepW; rw [← ByteArray.toList_eq, hxe]; simp), List.length_append, ← HK.out]; simp)
          clear hx htk
          go_wp2_with fail
          go_roundw
          case rel => exact ⟨k + 1, m, by omega, by go_num, rfl, by omega, HK2, by simp⟩
          case measure => simp only [intOf]; omega
        · have HK2 : Hid (m + 1 = ((L.take (k + 1)).filter keepW).length) := Lib.hid (by rw [htk, List.filter_append, List.filter_cons_of_pos (by unfold keepW; rw [← ByteArray.toList_eq]; simpa using hxe), List.length_append, ← HK.out]; simp)
          have hxf : (x.toList == []) = false := by rw [beq_eq_false_iff_ne]; exact hxe
          clear hx htk
          go_wp2_with fail
          go_roundw
          case rel => exact ⟨k + 1, m + 1, by omega, by go_num, by go_num, by omega, HK2, by simp⟩
          case measure => simp only [intOf]; omega
      · obtain rfl : k = n := by omega
        have HCF := Lib.hid (hasStr l nl la2 lc2 w4 HS4.out HNL.out (by unfold maxLen; omega) HFI.out)
        have hmm : m = nl := by rw [HK.out, HLF.out, List.take_of_length_le (by rw [HN.out]; exact Nat.le_refl _)]
        subst hmm
        clear HS4 HSA HK HFI
        go_wp2_with fail
        refine HCF.out.mono ?_; rintro e w5 ⟨rfl, hf5⟩
        have HB6 := Lib.hid (HB5.out.keep hf5.bel)
        clear hf5 HCF
        go_wp2_with fail
        go_ret
        exact ⟨rfl, HB6.out.bel⟩
end Go.Proofs.YtbolgfiafbhicaaDoor
namespace Go.Proofs.YtbolgfiafbhicaaDoor.deskCounts
open Go.ChangeShapes Go.WideShapes Go.ChangeAt Go.RowKit Go.Joins
open Go.ChangeMaps (open_string shut_string)
set_option linter.unusedVariables false

theorem own : ownKnob Tryd.prog.godebug = none := by kernel_rfl
theorem laidOut : laidOutB Tryd.prog = true := by kernel_rfl
theorem gT : Tryd.prog.globalNamed "internal/strconv.uint64pow10" = some 3 := by kernel_rfl
theorem bulk_one {H : Type} (d : DataW H) : 1 ≤ Rows.uptoBulk d := by
  cases d with
  | lit l => cases l <;> simp [Rows.uptoBulk]
  | nil => simp [Rows.uptoBulk]
  | ptr d => simp [Rows.uptoBulk]
  | slice elems spare => simp [Rows.uptoBulk]
  | agg parts => simp [Rows.uptoBulk]
  | iface t d => simp [Rows.uptoBulk]
  | map entries => simp [Rows.uptoBulk]
  | held h => simp [Rows.uptoBulk]
theorem bulk_part {H : Type} {d : DataW H} : ∀ {l : List (DataW H)}, d ∈ l → Rows.uptoBulk d ≤ Rows.uptoBulkAll l
  | [], h => by cases h
  | x :: r, h => by
    rw [Rows.uptoBulkAll]
    rcases List.mem_cons.1 h with rfl | h
    · omega
    · have := bulk_part h; omega
theorem str_bulk {H : Type} {ds : List (DataW H)} (hk : Rows.uptoSmall H ds = true) {s : ByteArray} (h : (.lit (.string s.data.toList) : DataW H) ∈ ds) : s.size ≤ 1048576 := by
  have hall : Rows.uptoBulkAll ds ≤ 1048576 := of_decide_eq_true hk
  have h1 := bulk_part h
  rw [Rows.uptoBulk] at h1
  have : s.data.toList.length = s.size := by rw [Array.length_toList]; rfl
  omega

theorem tab {W : World} (h : laidMetH Tryd.prog Rows.deskCountsUptoRow.laid W) : Lib.TabIs Tryd.prog W "internal/strconv.uint64pow10" .u64 Lib.pow10Tab := by
  have h1 : laidMet Tryd.prog Rows.deskCountsUptoRow.laid W := h
  have h2 := laidMet.tail (laidMet.tail h1)
  exact Lib.tabIs_of_head gT (by kernel_rfl) Tryd.underlying136 Tryd.underlying112 (by kernel_rfl) (by kernel_rfl) h2

theorem walk (a0 : ByteArray) (w : World) (h0 : a0.size ≤ 1048576) (ht : TabW w) :
    Calls Tryd.prog 4 #[.string a0] w fun e w' => e = .returned (.bool true) ∧ Below w.heap.size w w' := walkC a0 w h0 ht

set_option maxRecDepth 100000 in
theorem contract (H : Type) (enc : TypeId × Value → H) (W : World) (base : Nat) (args : Array Value) (ds gs : List (DataW H)) (before : List MemPlace)
    (hval0 : ∀ (j : Nat) t v, Tryd.f4.params[j]? = some t → args[j]? = some v → Value.okWide Tryd.prog W .any base t v)
    (hW : DataW.Whole enc Tryd.prog Tryd.f4.params.toList Rows.deskCountsSpec.vars false W args.toList ds gs before) (hk : Rows.uptoSmall H (ds ++ gs) = true)
    (hL : laidMetH Tryd.prog Rows.deskCountsUptoRow.laid W) (hsh : W.ShapedOpen Tryd.prog) :
    Calls Tryd.prog 4 args W fun e W' => ∃ v, e = .returned v ∧ Rows.deskCountsSpec.post enc Tryd.prog Tryd.f4 false true false false W args v W' := by
  have hval : ∀ (j : Nat) t v, Tryd.f4.params[j]? = some t → args[j]? = some v → Value.okWide Tryd.prog W .any base t v := hval0
  have hW' := hW
  obtain ⟨p, q, hA0, hV, rfl, hfz, hnd⟩ := hW
  have hA : DataW.TrodAll enc Tryd.prog W 0 (fun _ => true) true Tryd.f4.params.toList args.toList ds p := hA0
  rw [Tryd.params4] at hA hval
  obtain ⟨v0, vs0, d0, ds0, p0, q0, hargs, rfl, rfl, h0, r0⟩ := trodAll_cons hA
  obtain ⟨rfl, rfl, rfl⟩ := trodAll_nil r0
  obtain rfl : args = #[v0] := by cases args; simp_all
  obtain ⟨rfl, rfl⟩ := trodVars_none hV
  simp only [List.append_nil] at hk
  obtain ⟨a0, rfl, rfl, rfl, w0⟩ := open_string Tryd.underlying9 (hval 0 9 v0 rfl rfl) h0
  have sz0 : a0.size ≤ 1048576 := str_bulk hk (List.mem_of_getElem? (i := 0) rfl)
  clear hA0 hval0
  have ht : TabW W := ⟨tab hL, Tryd.laysM146.s1_3 W hsh⟩
  refine (walk a0 W sz0 ht).mono fun e W' ⟨he, bel⟩ => ?_
  subst he
  exact ⟨_, rfl, _, _, _, [], _, [], hW', trodAll_mk1 (shut_bool Tryd.underlying4 _), (trodAll_cons_mk (shut_string Tryd.underlying9 w0) trodAll_mk0), rfl, bel.frame _, fun h => by cases h⟩

def firstC : Array Value := (Go.Pinned.utf8FirstZ.map fun x : Nat => Value.int .u8 (x : Int)).toArray

/-- A world for the witness: the settled one, the tables laid. -/
noncomputable def laidWorld (os : Os) : World := { World.holding Tryd.prog os ⟨#[], #[], []⟩ with heap := ((((((World.holding Tryd.prog os ⟨#[], #[], []⟩).heap.modify 1 fun
      | .cells _ t frozen => .cells firstC t frozen
      | o => o).modify 2 fun
      | .cells _ t frozen => .cells #[.int .u8 128, .int .u8 191, .int .u8 160, .int .u8 191, .int .u8 128, .int .u8 159, .int .u8 144, .int .u8 191, .int .u8 128, .int .u8 143, .int .u8 0, .int .u8 0, .int .u8 0, .int .u8 0, .int .u8 0, .int .u8 0, .int .u8 0, .int .u8 0, .int .u8 0, .int .u8 0, .int .u8 0, .int .u8 0, .int .u8 0, .int .u8 0, .int .u8 0, .int .u8 0, .int .u8 0, .int .u8 0, .int .u8 0, .int .u8 0, .int .u8 0, .int .u8 0] t frozen
      | o => o).modify 3 fun
      | .cells _ t frozen => .cells #[.int .u64 1, .int .u64 10, .int .u64 100, .int .u64 1000, .int .u64 10000, .int .u64 100000, .int .u64 1000000, .int .u64 10000000, .int .u64 100000000, .int .u64 1000000000, .int .u64 10000000000, .int .u64 100000000000, .int .u64 1000000000000, .int .u64 10000000000000, .int .u64 100000000000000, .int .u64 1000000000000000, .int .u64 10000000000000000, .int .u64 100000000000000000, .int .u64 1000000000000000000, .int .u64 10000000000000000000] t frozen
      | o => o).modify 4 fun
      | .cells _ t frozen => .cells #[.int .u8 0, .int .u8 1, .int .u8 28, .int .u8 2, .int .u8 29, .int .u8 14, .int .u8 24, .int .u8 3, .int .u8 30, .int .u8 22, .int .u8 20, .int .u8 15, .int .u8 25, .int .u8 17, .int .u8 4, .int .u8 8, .int .u8 31, .int .u8 27, .int .u8 13, .int .u8 23, .int .u8 21, .int .u8 19, .int .u8 16, .int .u8 7, .int .u8 26, .int .u8 12, .int .u8 18, .int .u8 6, .int .u8 11, .int .u8 5, .int .u8 10, .int .u8 9] t frozen
      | o => o).modify 5 fun
      | .cells _ t frozen => .cells #[.int .u8 0, .int .u8 1, .int .u8 56, .int .u8 2, .int .u8 57, .int .u8 49, .int .u8 28, .int .u8 3, .int .u8 61, .int .u8 58, .int .u8 42, .int .u8 50, .int .u8 38, .int .u8 29, .int .u8 17, .int .u8 4, .int .u8 62, .int .u8 47, .int .u8 59, .int .u8 36, .int .u8 45, .int .u8 43, .int .u8 51, .int .u8 22, .int .u8 53, .int .u8 39, .int .u8 33, .int .u8 30, .int .u8 24, .int .u8 18, .int .u8 12, .int .u8 5, .int .u8 63, .int .u8 55, .int .u8 48, .int .u8 27, .int .u8 60, .int .u8 41, .int .u8 37, .int .u8 16, .int .u8 46, .int .u8 35, .int .u8 44, .int .u8 21, .int .u8 52, .int .u8 32, .int .u8 23, .int .u8 11, .int .u8 54, .int .u8 26, .int .u8 40, .int .u8 15, .int .u8 34, .int .u8 20, .int .u8 31, .int .u8 10, .int .u8 25, .int .u8 14, .int .u8 19, .int .u8 9, .int .u8 13, .int .u8 8, .int .u8 7, .int .u8 6] t frozen
      | o => o) }
theorem laid_met (os : Os) : laidMet Tryd.prog Rows.deskCountsUptoRow.laid ((laidWorld os).forCall (fun _ _ => 0) ⟨#[], #[.string ByteArray.empty], []⟩).memory :=
  laidMet_of_run' 8 (by kernel_rfl) (by kernel_rfl)
theorem reads (os : Os) {H : Type} (enc : TypeId × Value → H) : ∃ places, DataW.whole enc Tryd.prog ((laidWorld os).forCall (fun _ _ => 0) ⟨#[], #[.string ByteArray.empty], []⟩).memory Tryd.f4.params.toList Rows.deskCountsSpec.vars false (#[.string ByteArray.empty] : Array Value).toList 8 = some ([.lit (.string [])], [], places) :=
  ⟨[], by kernel_rfl⟩

set_option maxRecDepth 100000 in
theorem liftedUpto (os : Os) (started : os.Started) (H : Type) (enc : TypeId × Value → H) (F : Stop.Interp) :
    ReturnsInHanded {} Tryd.checked os 4 .any ((Rows.OpenSpec.upto Rows.deskCountsSpec).preRow enc Tryd.prog Tryd.f4 Rows.deskCountsUptoRow.domain false Rows.deskCountsUptoRow.laid) (((Rows.OpenSpec.upto Rows.deskCountsSpec).at F).post enc Tryd.prog Tryd.f4 false true false false) := by
  obtain ⟨places, hx⟩ := reads os enc
  refine returnsInHanded_of_row (C := Tryd.checked) (s := Rows.OpenSpec.upto Rows.deskCountsSpec) own started (by kernel_rfl) Tryd.func4
    (witness_row_at (enc := enc) (C := Tryd.checked) false (laidWorld os) #[.string ByteArray.empty] rfl (by kernel_rfl) (by kernel_rfl) (by kernel_rfl)
      (OpenSpec.preRow_of_cond 8 hx (by kernel_rfl) (fun k hk => by cases hk; kernel_rfl) (by kernel_rfl) (laid_met os))) ?_
  intro W base args ds gs before hval hW _ hcond _ hL hsh _
  exact contract H enc W base args ds gs before hval hW (hcond _ rfl) hL hsh
theorem saidUpto : Rows.DeskCountsUptoSaid :=
  OpenClaim.holds_of_cond 4 Tryd.f4 rfl rfl rfl rfl rfl rfl rfl ⟨rfl, rfl, rfl, rfl, rfl⟩ rfl rfl rfl rfl rfl (by kernel_rfl) Tryd.func4 (by kernel_rfl)
    (of_decide_eq_true (by kernel_rfl)) (by unfold Func.isWrapper; first | (rw [if_pos (by decide +kernel)]; kernel_rfl) | (rw [if_neg (by decide +kernel)]; exact ⟨rfl, rfl⟩))
    (fun os started H enc _ F => by rw [OpenClaim.pre_eq_preRow]; exact liftedUpto os started H enc F)
theorem plain (f : FuncId) (fn : Func) (hf : Tryd.pinned.checked.prog.funcNamed "lotcaster/castkeep.DeskCounts" = some f) (hfn : Tryd.pinned.checked.prog.funcs[f]? = some fn) :
    true = Tryd.pinned.checked.prog.looks [] ∧ ∀ (j : Nat) t, fn.params[j]? = some t → Tryd.pinned.checked.prog.wantsStandIn t = false := by
  obtain rfl : f = 4 := Option.some.inj ((show Tryd.prog.funcNamed "lotcaster/castkeep.DeskCounts" = some 4 by kernel_rfl).symm.trans hf) |>.symm
  obtain rfl : fn = Tryd.f4 := (Option.some.inj (Tryd.func4.symm.trans hfn)).symm
  refine ⟨by kernel_rfl, fun j t ht => ?_⟩
  rw [Tryd.params4] at ht
  obtain rfl : t = 9 := by have := Array.mem_of_getElem? ht; simpa using this
  exact (show Tryd.prog.wantsStandIn 9 = false by kernel_rfl)
/-- the second form's card -/
theorem cardUpto : Rows.DeskCountsUptoCardSaid :=
  Claim7.holds_tied_plain_at .later [] _ _ _ _ saidUpto (fun _ h => by cases h) (by kernel_rfl) (fun _ h => by cases h) deskCountsUpto_row_tie rfl ⟨rfl, rfl⟩ (by kernel_rfl) rfl plain (by kernel_rfl)
#print axioms cardUpto
end Go.Proofs.YtbolgfiafbhicaaDoor.deskCounts
