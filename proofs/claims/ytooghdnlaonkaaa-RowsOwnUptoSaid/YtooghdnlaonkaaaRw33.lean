/- Several of my texts in one: Lin3. -/
import Derived.Test.YtooghdnlaonkaaaRw27
/- lines.Split: plain law, contract. -/
namespace Go.Proofs.Ytooghdnlaonkaaa
open Go.RowKit

/-- the first heap whose last number is no less -/
def spI (T : List Int) (x : Int) : Nat := T.findIdx (fun y => decide (x ≤ y))
def spT (T : List Int) (x : Int) : List Int := if spI T x < T.length then T.set (spI T x) x else T ++ [x]
def tK (l : List Int) : Nat → List Int
  | 0 => []
  | i + 1 => spT (tK l i) (nth l i)
def oK (l : List Int) : Nat → List Int
  | 0 => []
  | i + 1 => oK l i ++ [((spI (tK l i) (nth l i) : Nat) : Int)]
theorem oK_len (l : List Int) : ∀ i, (oK l i).length = i
  | 0 => rfl
  | i + 1 => by rw [oK, List.length_append, oK_len l i]; rfl
theorem spI_le (T : List Int) (x : Int) : spI T x ≤ T.length := List.findIdx_le_length
theorem spI_of {T : List Int} {x : Int} {k : Nat} (hk : k < T.length) (h1 : decide (x ≤ nth T k) = true) (h2 : ∀ i, i < k → decide (x ≤ nth T i) = false) : spI T x = k := by
  unfold spI
  refine (List.findIdx_eq (p := fun y => decide (x ≤ y)) hk).2 ⟨?_, fun i hi => ?_⟩
  · have : nth T k = T[k] := by simp [nth, hk]
    rw [← this]; exact h1
  · have : nth T i = T[i] := by simp [nth, show i < T.length by omega]
    rw [← this]; exact h2 i hi
theorem spI_none {T : List Int} {x : Int} (h : ∀ i, i < T.length → decide (x ≤ nth T i) = false) : spI T x = T.length := by
  unfold spI
  refine List.findIdx_eq_length.2 fun y hy => ?_
  obtain ⟨i, hi, e⟩ := List.getElem_of_mem hy
  have := h i hi
  rw [show nth T i = y from by simp [nth, hi, e]] at this
  exact this
theorem tK_len (l : List Int) : ∀ i, (tK l i).length ≤ i
  | 0 => Nat.le_refl _
  | i + 1 => by
    have := tK_len l i
    rw [tK, spT]; split
    · rw [List.length_set]; omega
    · rw [List.length_append]; simp; omega

set_option maxRecDepth 100000 in
set_option maxHeartbeats 8000000 in
theorem lin_split (l : List Int) (n : Nat) (a : Option Addr) (cap : Nat) (w : World) (h : Sa w a (ints l)) (hn : l.length = n) (h30 : n ≤ 30) :
    Calls Try.prog 58 #[.slice a n cap] w fun e w' => ∃ ad cp, e = .returned (.tuple #[.slice ad n cp, .int .i64 0]) ∧ n ≤ cp ∧ Fr w w' [⟨3, .slice ad n cp, ints (oK l n)⟩] := by
  have HS := Lib.hid h; have HN := Lib.hid hn
  clear h hn
  go_enter Try.func58, Try.ntmps58
  go_wp2_with fail
  refine (linChk n a cap w).mono ?_; rintro e w' ⟨rfl, rfl⟩
  rw [if_neg (show ¬ 30 < n by omega)]
  go_wp2_with fail
  go_loopw [5, 6, 17] (fun s5 s6 s17 wr => ∃ (i M : Nat) (ad1 ad2 : Option Addr) (q1 q2 : Nat), i ≤ n ∧ s17 = .int .i64 i ∧ s5 = .slice ad1 M q1 ∧ s6 = .slice ad2 i q2 ∧ M ≤ i ∧ Hid ((tK l i).length = M) ∧
    Hid (Fr w wr [⟨3, .slice ad1 M q1, ints (tK l i)⟩, ⟨3, .slice ad2 i q2, ints (oK l i)⟩])) (fun _ _ i _ => n - (intOf i).toNat)
  case atStart => exact ⟨0, 0, .none, .none, 0, 0, by omega, rfl, rfl, rfl, by omega, Lib.hid rfl, Lib.hid (((Fr.start w).nilSlice _).nilSlice _)⟩
  case round =>
    obtain ⟨i, M, ad1, ad2, q1, q2, hi, rfl, rfl, rfl, hM, HM, HF⟩ := hrel
    by_cases hlt : i < n
    · obtain ⟨b0, off, rfl, hb0, cx⟩ := (HF.out.old HS.out).int i (by rw [HN.out]; exact hlt)
      have ht : tK l (i + 1) = spT (tK l i) (nth l i) := rfl
      have ho : oK l (i + 1) = oK l i ++ [((spI (tK l i) (nth l i) : Nat) : Int)] := rfl
      obtain ⟨x, hx⟩ : ∃ x, nth l i = x := ⟨_, rfl⟩
      rw [hx] at cx ht ho
      have HT := Lib.hid ht; have HO := Lib.hid ho
      have e1 : (0 : Int) ≤ (i : Int) := by omega
      have e2 : (i : Int) < (n : Int) := by omega
      obtain ⟨T, hT⟩ : ∃ T, tK l i = T := ⟨_, rfl⟩
      rw [hT] at HT HO HM HF
      obtain ⟨O, hO⟩ : ∃ O, oK l i = O := ⟨_, rfl⟩
      rw [hO] at HO HF
      -- the cell of x
      have HF1 : Hid (Fr w (wr.alloc (.cells #[.int .i64 x] 3)) [⟨3, .slice (some ⟨wr.heap.size, 0, .none⟩) 1 1, ints [x]⟩, ⟨3, .slice ad1 M q1, ints T⟩, ⟨3, .slice ad2 i q2, ints O⟩]) := Lib.hid (HF.out.lit [x] #[.int .i64 x] rfl 1 rfl (by omega) 3)
      obtain ⟨B, hB⟩ : ∃ B, wr.heap.size = B := ⟨_, rfl⟩
      rw [hB] at HF1
      have cB : (wr.alloc (.cells #[.int .i64 x] 3)).cell? ⟨B, 0, .none⟩ = some (.int .i64 x) := by
        obtain ⟨_, e, _, c, _⟩ := HF1.out.openI 0 (by simp)
        cases e; exact c
      have HCB := Lib.hid cB
      have hB1 : (wr.alloc (.cells #[.int .i64 x] 3)).heap.size = B + 1 := by simp [hB]
      have HF1s := Lib.hid HF1.out.swap
      have hM6 : M ≤ 1000000 := by omega
      have HX0 : Hid (nth [x] 0 = x) := Lib.hid rfl
      have hi6 : i ≤ 1000000 := by omega
      clear hx ht ho hT hO
      go_wp2_with fail
      refine (idxF_any (fun y => decide (x ≤ y)) 107 #[.pointer (some ⟨B, 0, .none⟩)] (enters_of Try.func107 (by kernel_rfl) rfl) T M ad1 q1 _ (fun y => split1 x y B _ HCB.out) (HF1.out.get 1 rfl) HM.out (by omega)).mono ?_
      rintro e w' ⟨r, rfl, hr, rfl⟩
      rcases hr with ⟨rfl, hno⟩ | ⟨k, hk, rfl, hk1, hk2⟩
      · have hsp : spI T x = M := by rw [← HM.out]; exact spI_none (by rw [HM.out]; exact hno)
        have ht2 : spT T x = T ++ [x] := by unfold spT; rw [if_neg (by rw [hsp, HM.out]; omega)]
        have HSP := Lib.hid hsp; have HT2 := Lib.hid ht2
        have HP31 : Hid (∀ (adt : Option Addr) (qt : Nat) (w3 : World), Fr w w3 [⟨3, .slice adt (M + 1) qt, ints (T ++ [x])⟩, ⟨3, .slice (some ⟨B, 0, .none⟩) 1 1, ints [x]⟩, ⟨3, .slice ad2 i q2, ints O⟩] →
            ∃ g, adt = some ⟨g, 0, .none⟩ ∧ w3.cell? ⟨g, M, .none⟩ = some (.int .i64 x) ∧ w3.frozen? ⟨g, M, .none⟩ = false ∧ w3.cell? ⟨B, 0, .none⟩ = some (.int .i64 x) ∧
              Hid (Fr w (w3.setCell ⟨g, M, .none⟩ (.int .i64 x)) [⟨3, .slice ad2 i q2, ints O⟩, ⟨3, .slice (some ⟨g, 0, .none⟩) (M + 1) qt, ints (T ++ [x])⟩, ⟨3, .slice (some ⟨B, 0, .none⟩) 1 1, ints [x]⟩])) := Lib.hid fun adt qt w3 hf3 => by
          obtain ⟨g, rfl, hg, ct, ft⟩ := hf3.openI M (by rw [List.length_append, HM.out]; simp)
          obtain ⟨_, e, _, cx3, _⟩ := hf3.swap.openI 0 (by simp)
          cases e
          rw [nth_snoc, if_pos HM.out.symm] at ct
          have hf4 := hf3.setInt M x
          rw [show (T ++ [x]).set M x = T ++ [x] from by rw [List.set_append_right _ _ (by rw [HM.out]; exact Nat.le_refl _)]; simp [HM.out]] at hf4
          exact ⟨g, rfl, ct, ft, cx3, Lib.hid hf4.rot⟩
        have d1 : (0 : Int) ≤ (M : Int) := by omega
        have d2 : (M : Int) < (M : Int) + 1 := by omega
        clear hno hsp ht2
        go_wp2_with (first
          | (with_reducible refine at_slot 31 ?_; go_must (refine wpList_pushInt' rfl _ _ rfl ad1 M q1 _ x _ (B + 1) hB1 rfl HF1s.out rfl hM6 ?_); intro adt qt w3 hf3 hlt3; obtain ⟨g, rfl, ct, ft, cx3, HF4⟩ := HP31.out adt qt w3 hf3; clear hf3 hlt3)
          | (with_reducible refine at_slot 39 ?_; go_must (refine wpList_pushInt' rfl _ _ rfl ad2 i q2 _ (M : Int) _ w3.heap.size (by simp) rfl HF4.out rfl hi6 ?_); intro ado qo w5 hf5 hlt5; have HF5 := Lib.hid (hf5.sub (M := [_, _]) (.cons_cons _ (.cons_cons _ (List.nil_sublist _)))); clear hf5))
        exact ⟨⟨i + 1, M + 1, some ⟨g, 0, .none⟩, ado, qt, qo, by omega, by simp, rfl, rfl, by omega, Lib.hid (by rw [HT.out, HT2.out, List.length_append, HM.out]; rfl), Lib.hid (by rw [HT.out, HT2.out, HO.out, HSP.out]; exact HF5.out.swap)⟩, by simp only [intOf]; omega⟩
      · have hsp : spI T x = k := spI_of (by rw [HM.out]; exact hk) hk1 hk2
        have ht2 : spT T x = T.set k x := by unfold spT; rw [if_pos (by rw [hsp, HM.out]; exact hk), hsp]
        have HSP := Lib.hid hsp; have HT2 := Lib.hid ht2
        obtain ⟨g, rfl, hg, ct, ft⟩ := HF1s.out.openI k (by rw [HM.out]; exact hk)
        have HF4 := Lib.hid (HF1s.out.setInt k x).rot
        have d1 : (0 : Int) ≤ (k : Int) := by omega
        have d2 : (k : Int) < (M : Int) := by omega
        have d3 : decide ((k : Int) < 0) = false := decide_eq_false (by omega)
        clear hk1 hk2 hsp ht2 hg
        go_wp2_with (with_reducible refine at_slot 39 ?_; go_must (refine wpList_pushInt' rfl _ _ rfl ad2 i q2 _ (k : Int) _ (B + 1) (by simp [hB]) rfl HF4.out rfl hi6 ?_); intro ado qo w5 hf5 hlt5; have HF5 := Lib.hid (hf5.sub (M := [_, _]) (.cons_cons _ (.cons_cons _ (List.nil_sublist _)))); clear hf5)
        exact ⟨⟨i + 1, M, some ⟨g, 0, .none⟩, ado, q1, qo, by omega, by simp, rfl, rfl, by omega, Lib.hid (by rw [HT.out, HT2.out, List.length_set, HM.out]), Lib.hid (by rw [HT.out, HT2.out, HO.out, HSP.out]; exact HF5.out.swap)⟩, by simp only [intOf]; omega⟩
    · obtain rfl : i = n := by omega
      have HF5 := Lib.hid (HF.out.sub (M := [⟨3, .slice ad2 i q2, ints (oK l i)⟩]) (List.sublist_cons_self _ _))
      go_wp2_with fail
      go_ret2
      exact ⟨ad2, q2, rfl, HF5.out.cap, HF5.out⟩
end Go.Proofs.Ytooghdnlaonkaaa
