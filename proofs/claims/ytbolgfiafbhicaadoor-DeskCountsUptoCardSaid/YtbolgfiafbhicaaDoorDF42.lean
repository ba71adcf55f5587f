/- Several of my texts in one: Dsk2. -/
import Derived.Test.YtbolgfiafbhicaaDoorDF41
import Derived.Test.YtbolgfiafbhicaaDoorDF17
import Derived.Test.YtbolgfiafbhicaaDoorShelf
import Derived.Lib.LaidTab
import Derived.Lib.ItoaLen
/- Contracts of the desk: numbers, listed; the tables that the library reads. -/
namespace Go.Proofs.YtbolgfiafbhicaaDoor
open Go.RowKit

/-- what the library's tables hold -/
structure TabW (w : World) : Prop where
  tab : Lib.TabIs Tryd.prog w "internal/strconv.uint64pow10" .u64 Lib.pow10Tab
  max : ∃ m, w.cell? ⟨0, 0, none⟩ = some (.int .i64 m)
theorem pow10At : Tryd.prog.globalNamed "internal/strconv.uint64pow10" = some 3 := by kernel_rfl
theorem cell_lt {w : World} {b o : Nat} {v : Value} (h : w.cell? ⟨b, o, none⟩ = some v) : b < w.heap.size := by
  unfold World.cell? at h
  split at h
  · next hq => exact (Array.getElem?_eq_some_iff.1 hq).1
  · cases h
theorem TabW.keep {w w' : World} (h : TabW w) (hb : Below w.heap.size w w') : TabW w' := by
  refine ⟨?_, ?_⟩
  · have h1 := h.tab
    have hlt : 3 < w.heap.size := cell_lt (h1.cell pow10At 0 (by decide))
    unfold Lib.TabIs World.var? at h1 ⊢
    rw [pow10At] at h1 ⊢
    simp only [Option.bind_some] at h1 ⊢
    have := hb.block 3 hlt
    rw [this]
    exact h1
  · obtain ⟨m, hm⟩ := h.max
    exact ⟨m, (hb.cell (p := ⟨0, 0, none⟩) (cell_lt hm)).trans hm⟩
theorem below_growD (w : World) (os : Array Obj) : Below w.heap.size w (Sort.grow w os) := ⟨rfl, rfl, rfl, by simp [Sort.grow], fun k hk => by simp [Sort.grow, Array.getElem?_append_left hk]⟩
theorem itoaC (n : Int) (h0 : -9223372036854775808 ≤ n) (h1 : n ≤ 9223372036854775807) (w : World) (h : TabW w) :
    Calls Tryd.prog 17 #[.int .i64 n] w fun e w' => e = .returned (.string (bs (Lib.itoa n))) ∧ Fr w w' [] := by
  refine (Tryd.strconv_Itoa n h0 h1 w h.tab).mono ?_
  rintro e w' ⟨rfl, k, os, rfl⟩
  exact ⟨rfl, ((Fr.start w).drewN k).keep (below_growD _ _)⟩
theorem splitC (s : ByteArray) (c : UInt8) (w : World) (hs : s.size < 4294967281) (h : TabW w) :
    Calls Tryd.prog 7 #[.string s, .string ⟨#[c]⟩] w fun e w' => ∃ N, e = .returned (.slice (some ⟨N, 0, none⟩) (linesB c s).length (linesB c s).length) ∧ Fr w w' [] ∧ Sa w' (some ⟨N, 0, none⟩) (strV (linesB c s)) := by
  obtain ⟨m, hm'⟩ := h.max
  refine (Tryd.strings_Split s ⟨#[c]⟩ m w hs hm' (by show 1 ≤ 1; omega)).mono ?_
  rintro e w' ⟨rfl, rfl⟩
  refine ⟨w.heap.size, by rw [linesB_len], (Fr.start w).alloc _, fun h0 => ⟨w.heap.size, 0, rfl, by simp, fun i hi => ?_⟩⟩
  have h1 := cell_new w ((Lib.splitB ⟨#[c]⟩ 0 (Lib.countB s ⟨#[c]⟩) s).map Value.string).toArray 9 i
  rw [h1]
  unfold strV linesB
  rw [List.getElem?_toArray]
theorem bs_app3 (a b : List UInt8) (c : UInt8) : bs a ++ (bs b ++ ⟨#[c]⟩) = bs (a ++ (b ++ [c])) := by
  apply ByteArray.ext
  rw [ByteArray.data_append, ByteArray.data_append]
  simp [bs]
theorem bs_app (a : List UInt8) (b : List UInt8) : bs a ++ bs b = bs (a ++ b) := by
  apply ByteArray.ext
  rw [ByteArray.data_append]
  simp [bs]
theorem bs_size (l : List UInt8) : (bs l).size = l.length := by show l.toArray.size = _; simp
/-- numbers, or a thrown 10 -/
def NumsSaid (R : Option (List Int)) (w : World) (e : Ending) (w' : World) : Prop :=
  (∃ (p : List Int) (ad : Option Addr) (n cp : Nat), R = some p ∧ e = .returned (.slice ad n cp) ∧ p.length = n ∧ n ≤ cp ∧ Fr w w' [⟨3, .slice ad n cp, ints p⟩]) ∨ (R = none ∧ e = .panicked (refL 10) ∧ Fr w w' [])
def preO (p : List Int) (R : Option (List Int)) : Option (List Int) := R.map (p ++ ·)
theorem nums_step (l : List ByteArray) (k : Nat) (s : ByteArray) (h : l[k]? = some s) (p : List Int) : preO p (numsB (l.drop k)) = match numB s with
    | none => none
    | some v => preO (p ++ [v]) (numsB (l.drop (k + 1))) := by
  obtain ⟨hk, e⟩ := List.getElem?_eq_some_iff.1 h
  rw [List.drop_eq_getElem_cons hk, numsB, e]
  cases numB s with
  | none => rfl
  | some v =>
    unfold preO
    simp only [Option.map_map]
    congr 1
    funext x
    simp
set_option maxRecDepth 100000 in
set_option maxHeartbeats 8000000 in
theorem deskNums (l : List ByteArray) (n : Nat) (a : Option Addr) (cap : Nat) (w : World) (h : Sa w a (strV l)) (hn : l.length = n) (hm : n ≤ 10000) (hl : ∀ s ∈ l, s.size ≤ maxLen) :
    Calls Tryd.prog 33 #[.slice a n cap] w (NumsSaid (numsB l) w) := by
  obtain ⟨R, hR⟩ : ∃ R, numsB l = R := ⟨_, rfl⟩
  have HR : Hid (preO [] (numsB (l.drop 0)) = R) := Lib.hid (by rw [List.drop_zero, hR]; unfold preO; cases R <;> simp)
  have HS := Lib.hid h; have HN := Lib.hid hn; have HL := Lib.hid hl
  rw [hR]
  clear hR h hn hl
  go_enter Tryd.func33, Tryd.ntmps33
  go_wp2_with fail
  go_loopw [3, 8] (fun o i wr => ∃ (k : Nat) (ad : Option Addr) (cp : Nat) (p : List Int), k ≤ n ∧ i = .int .i64 k ∧ o = .slice ad k cp ∧ Hid (p.length = k) ∧ Hid (preO p (numsB (l.drop k)) = R) ∧ Hid (Fr w wr [⟨3, .slice ad k cp, ints p⟩])) (fun _ i _ => n - (intOf i).toNat)
  case atStart => exact ⟨0, .none, 0, [], by omega, rfl, rfl, Lib.hid rfl, HR, Lib.hid ((Fr.start w).nilSlice _)⟩
  case round =>
    clear HR
    obtain ⟨k, ad, cp, p, hk, rfl, rfl, HP, HK, HF⟩ := hrel
    by_cases hlt : k < n
    · obtain ⟨s, hs⟩ : ∃ s, l[k]? = some s := ⟨_, List.getElem?_eq_getElem (by rw [HN.out]; exact hlt)⟩
      obtain ⟨b, off, rfl, -, hc⟩ := (HF.out.old HS.out).strA k s hs
      have hst := nums_step l k s hs p
      rw [HK.out] at hst
      have HC := Lib.hid (deskNum s wr (HL.out s (List.mem_of_getElem? hs)))
      obtain ⟨v, hv⟩ : ∃ v, numB s = v := ⟨_, rfl⟩
      rw [hv] at hst HC
      have HST := Lib.hid hst
      have d1 : (0 : Int) ≤ (k : Int) := by omega
      have d2 : (k : Int) < (n : Int) := by omega
      clear hs hst hv
      go_wp2_with fail
      refine HC.out.mono ?_; rintro e w2 ⟨hf2, ⟨x, rfl, rfl⟩ | ⟨rfl, rfl⟩⟩
      · have HF2 := Lib.hid (HF.out.call hf2)
        have HST := Lib.hid HST.out
        clear hf2 HC HF
        go_wp2_with (with_reducible refine at_slot 16 ?_; go_must (refine wpList_pushInt' rfl _ _ rfl ad k cp p x _ w2.heap.size rfl rfl HF2.out rfl (by omega) ?_); intro ad' cp' w3 hf3 hlt3)
        have HF3 := Lib.hid hf3
        clear hf3
        go_roundw
        case rel => exact ⟨k + 1, ad', cp', p ++ [x], by omega, by go_num, rfl, Lib.hid (by rw [List.length_append, HP.out]; rfl), Lib.hid HST.out.symm, HF3⟩
        case measure => simp only [intOf]; omega
      · have HF2 := Lib.hid (HF.out.below.keep hf2.bel)
        have HST := Lib.hid HST.out
        clear hf2 HC HF
        go_wp2_with fail
        exact ⟨rfl, .inr ⟨HST.out, rfl, HF2.out⟩⟩
    · obtain rfl : k = n := by omega
      have HO : Hid (R = some p) := Lib.hid (by
        have := HK.out
        rw [List.drop_of_length_le (by rw [HN.out]; exact Nat.le_refl _)] at this
        rw [← this]; simp [preO, numsB])
      have HC := Lib.hid HF.out.cap
      go_wp2_with fail
      go_ret
      exact .inl ⟨p, ad, k, cp, HO.out, rfl, HP.out, HC.out, HF.out⟩
set_option maxRecDepth 100000 in
set_option maxHeartbeats 8000000 in
theorem deskList (p : List Int) (n : Nat) (a : Option Addr) (cap : Nat) (w : World) (h : Sa w a (ints p)) (hn : p.length = n) (hm : n ≤ 10000) (hb : ∀ x ∈ p, -9223372036854775808 ≤ x ∧ x ≤ 9223372036854775807) (ht : TabW w) :
    Calls Tryd.prog 34 #[.slice a n cap] w fun e w' => e = .returned (.string (listB p)) ∧ Fr w w' [] := by
  have HS := Lib.hid h; have HN := Lib.hid hn; have HB := Lib.hid hb; have HT := Lib.hid ht
  clear h hn hb ht
  go_enter Tryd.func34, Tryd.ntmps34
  go_wp2_with fail
  go_loopw [3, 8] (fun o i wr => ∃ (k : Nat) (pre : List UInt8), k ≤ n ∧ i = .int .i64 k ∧ o = .string (bs pre) ∧ (bs pre).size ≤ 22 * k ∧ Hid (pre = listL (p.take k)) ∧ Hid (Fr w wr [])) (fun _ i _ => n - (intOf i).toNat)
  case atStart => exact ⟨0, [], by omega, rfl, rfl, by rw [bs_size]; simp, Lib.hid rfl, Lib.hid (Fr.start w)⟩
  case round =>
    obtain ⟨k, pre, hk, rfl, rfl, hps, HP, HF⟩ := hrel
    by_cases hlt : k < n
    · obtain ⟨b, off, rfl, -, hc⟩ := (HF.out.old HS.out).int k (by rw [HN.out]; exact hlt)
      have hx := HB.out _ (nth_mem p k (by rw [HN.out]; exact hlt))
      have htk := take_nth p k (by rw [HN.out]; exact hlt)
      obtain ⟨x, hxe⟩ : ∃ x, nth p k = x := ⟨_, rfl⟩
      rw [hxe] at hc hx htk
      have HTK := Lib.hid htk
      have hxs : (bs (Lib.itoa x)).size ≤ 21 := by rw [bs_size]; exact Lib.itoa_length_le x hx.1 hx.2
      have HXS := Lib.hid hxs; have HPS := Lib.hid hps
      have HC := Lib.hid (itoaC x hx.1 hx.2 wr (HT.out.keep HF.out.bel))
      have d1 : (0 : Int) ≤ (k : Int) := by omega
      have d2 : (k : Int) < (n : Int) := by omega
      clear hxe hx htk
      go_wp2_with fail
      refine HC.out.mono ?_; rintro e w2 ⟨rfl, hf2⟩
      have HF2 := Lib.hid (HF.out.keep hf2.bel)
      clear hf2 HC HF
      go_wp2_with fail
      go_roundw
      case rel => exact ⟨k + 1, pre ++ (Lib.itoa x ++ [32]), by omega, by go_num, by rw [bs_app3], by have h1 := HXS.out; have h2 := HPS.out; rw [bs_size] at h1 h2 ⊢; simp only [List.length_append, List.length_singleton]; omega, Lib.hid (by rw [HTK.out, HP.out]; simp [listL]), HF2⟩
      case measure => simp only [intOf]; omega
    · obtain rfl : k = n := by omega
      have HO : Hid (pre = listL p) := Lib.hid (by rw [HP.out, List.take_of_length_le (by rw [HN.out]; exact Nat.le_refl _)])
      go_wp2_with fail
      go_ret
      refine ⟨?_, HF.out⟩
      unfold listB
      rw [← HO.out, ← bs_app]; rfl
end Go.Proofs.YtbolgfiafbhicaaDoor
