/- Several of my texts in one: TabK1. -/
import Derived.Test.YtooghdnlaonkaaaRw34
import Derived.Test.YtooghdnlaonkaaaRw12
import Derived.Deep.CutRange
/- Contract of tableau.Check over any rows. -/
namespace Go.Proofs.Ytooghdnlaonkaaa
open Go.RowKit

/-- the row i of rows that read as these -/
theorem Rm.rowAt {w : World} {a : Option Addr} {R : List Rw} {T : List (List Int)} (h : Rm w a R) (e : lsR R = T) (i : Nat) (hi : i < T.length) :
    ∃ b off a1 c1, a = some ⟨b, off, .none⟩ ∧ b < w.heap.size ∧ w.cell? ⟨b, off + i, .none⟩ = some (.slice a1 (T.getD i []).length c1) ∧ Sa w a1 (ints (T.getD i [])) := by
  have hiR : i < R.length := by rw [← e, lsR_len] at hi; exact hi
  obtain ⟨b, off, ea, hb, hc, hs⟩ := h.at i hiR
  have hr : R[i].2.2 = T.getD i [] := by
    rw [← e, List.getD_eq_getElem?_getD]
    unfold lsR
    rw [List.getElem?_map, List.getElem?_eq_getElem hiR]; rfl
  unfold rv at hc
  rw [hr] at hc hs
  exact ⟨b, off, _, _, ea, hb, hc, hs⟩
def cellN (ls : List (List Int)) (i k : Nat) : Int := nth (ls.getD i []) k
def lenN (ls : List (List Int)) (i : Nat) : Nat := (ls.getD i []).length
def befo (ls : List (List Int)) (i k : Nat) : List Int := (ls.take i).flatten ++ (ls.getD i []).take k
def totN (ls : List (List Int)) : Nat := (ls.map List.length).sum
def rowOk (ls : List (List Int)) (i : Nat) : Prop := 0 < lenN ls i ∧ (0 < i → lenN ls i ≤ lenN ls (i - 1))
def cellOk (ls : List (List Int)) (i k : Nat) : Prop :=
  0 ≤ cellN ls i k ∧ cellN ls i k < totN ls ∧ cellN ls i k ∉ befo ls i k ∧ (0 < k → cellN ls i (k - 1) ≤ cellN ls i k) ∧ (0 < i → cellN ls (i - 1) k ≤ cellN ls i k)
structure TabOk (ls : List (List Int)) : Prop where
  tot : totN ls ≤ 10
  few : ls.length ≤ 10
  row : ∀ i, i < ls.length → rowOk ls i
  cell : ∀ i k, i < ls.length → k < lenN ls i → cellOk ls i k
theorem befo_step (ls : List (List Int)) (i k : Nat) (h : k < lenN ls i) : befo ls i (k + 1) = befo ls i k ++ [cellN ls i k] := by
  unfold befo cellN
  rw [take_nth _ k h, List.append_assoc]
theorem befo_next (ls : List (List Int)) (i : Nat) (h : i < ls.length) : befo ls (i + 1) 0 = befo ls i (lenN ls i) := by
  unfold befo lenN
  rw [List.take_length, List.take_zero, List.append_nil, List.take_succ_eq_append_getElem h, List.flatten_append, List.getD_eq_getElem?_getD, List.getElem?_eq_getElem h]
  simp
theorem totN_take (ls : List (List Int)) (k : Nat) (h : k < ls.length) : totN (ls.take (k + 1)) = totN (ls.take k) + lenN ls k := by
  unfold totN lenN
  rw [List.take_succ_eq_append_getElem h, List.map_append, List.sum_append, List.getD_eq_getElem?_getD, List.getElem?_eq_getElem h]
  simp
theorem le_sum_mem : ∀ {s : List Nat} {x : Nat}, x ∈ s → x ≤ s.sum
  | [], _, h => by simp at h
  | y :: s, x, h => by
    rw [List.sum_cons]
    rcases List.mem_cons.1 h with rfl | h
    · omega
    · have := le_sum_mem h; omega
theorem lenN_tot (ls : List (List Int)) (i : Nat) (h : i < ls.length) : lenN ls i ≤ totN ls := by
  unfold lenN totN
  rw [List.getD_eq_getElem?_getD, List.getElem?_eq_getElem h]
  exact le_sum_mem (List.mem_map_of_mem (List.getElem_mem h))
theorem getD_get (L : List (List Int)) (i : Nat) (h : i < L.length) : L.getD i [] = L[i] := by
  rw [List.getD_eq_getElem?_getD, List.getElem?_eq_getElem h]; rfl
theorem flat_take (ls : List (List Int)) (i : Nat) (h : i < ls.length) : (ls.take (i + 1)).flatten = (ls.take i).flatten ++ ls.getD i [] := by
  rw [List.take_succ_eq_append_getElem h, List.flatten_append, getD_get ls i h]; simp
theorem flat_len (ls : List (List Int)) : ls.flatten.length = totN ls := by unfold totN; rw [List.length_flatten]
theorem nth_appL (A B : List Int) (n : Nat) (h : n < A.length) : nth (A ++ B) n = nth A n := by
  unfold nth; rw [List.getD_eq_getElem?_getD, List.getD_eq_getElem?_getD, List.getElem?_append_left h]
theorem nth_appR (A B : List Int) (n : Nat) (h : A.length ≤ n) : nth (A ++ B) n = nth B (n - A.length) := by
  unfold nth; rw [List.getD_eq_getElem?_getD, List.getD_eq_getElem?_getD, List.getElem?_append_right h]
/-- numbers of the rows are told one after the other -/
theorem befo_all {Pr : Int → List Int → Prop} (ls : List (List Int)) (h : ∀ i k, i < ls.length → k < lenN ls i → Pr (cellN ls i k) (befo ls i k)) :
    ∀ m, m ≤ ls.length → ∀ n, n < ((ls.take m).flatten).length → Pr (nth (ls.take m).flatten n) ((ls.take m).flatten.take n)
  | 0, _, n, hn => by simp at hn
  | m + 1, hm, n, hn => by
    rw [flat_take ls m (by omega)] at hn ⊢
    rw [List.length_append] at hn
    by_cases c : n < ((ls.take m).flatten).length
    · have ih := befo_all ls h m (by omega) n c
      rw [nth_appL _ _ _ c, List.take_append_of_le_length (by omega)]; exact ih
    · have hk : n - ((ls.take m).flatten).length < lenN ls m := by unfold lenN; omega
      have := h m _ (by omega) hk
      rw [nth_appR _ _ _ (by omega), List.take_append, List.take_of_length_le (l := (ls.take m).flatten) (by omega)]
      exact this
/-- a number in its place, by a bound that may be no length -/
def cellS (S : Int) (ls : List (List Int)) (i k : Nat) : Prop :=
  0 ≤ cellN ls i k ∧ cellN ls i k < S ∧ cellN ls i k ∉ befo ls i k ∧ (0 < k → cellN ls i (k - 1) ≤ cellN ls i k) ∧ (0 < i → cellN ls (i - 1) k ≤ cellN ls i k)
theorem cellS_of {S : Int} {ls : List (List Int)} (hs : totN ls ≤ 10 → S = (totN ls : Nat)) (h : TabOk ls) (i k : Nat) (hi : i < ls.length) (hk : k < lenN ls i) : cellS S ls i k := by
  unfold cellS; rw [hs h.tot]; exact h.cell i k hi hk
theorem tabOk_all {S : Int} {ls : List (List Int)} (hs : totN ls ≤ 10 → S = (totN ls : Nat)) (h10 : S ≤ 10) (hl : ls.length ≤ 10) (hr : ∀ i, i < ls.length → rowOk ls i) (hc : ∀ i k, i < ls.length → k < lenN ls i → cellS S ls i k) : TabOk ls := by
  have hp := befo_all (Pr := fun x B => x ∉ B ∧ 0 ≤ x ∧ x < S) ls (fun i k hi hk => by
    obtain ⟨h1, h2, h3, _⟩ := hc i k hi hk
    exact ⟨h3, h1, h2⟩) ls.length (Nat.le_refl _)
  rw [List.take_length] at hp
  have nd : ls.flatten.Nodup := by
    unfold List.Nodup
    rw [List.pairwise_iff_getElem]
    intro i j hi hj hij e
    have := (hp j hj).1
    rw [nth_get _ j hj, ← e] at this
    exact this (by
      rw [List.mem_take_iff_getElem]
      exact ⟨i, by omega, rfl⟩)
  have hle : ls.flatten.length ≤ S.toNat := by
    have := List.Nodup.length_le_of_subset (l₂ := (List.range S.toNat).map fun k : Nat => (k : Int)) nd (fun x hx => by
      obtain ⟨n, hn, rfl⟩ := mem_nth hx
      have := (hp n hn).2
      exact List.mem_map.2 ⟨(nth ls.flatten n).toNat, List.mem_range.2 (by omega), by omega⟩)
    simpa using this
  rw [flat_len] at hle
  have ht : totN ls ≤ 10 := by omega
  have := hs ht
  subst this
  exact ⟨ht, hl, hr, hc⟩
def snS (L : List Int) : List Value := (List.range 10).map fun v : Nat => Value.bool (L.any (· == (v : Int)))
theorem snS_len (L : List Int) : (snS L).length = 10 := by simp [snS]
theorem snS_get (L : List Int) (v : Nat) (h : v < 10) : (snS L)[v]? = some (.bool (L.any (· == (v : Int)))) := by simp [snS, h]
theorem snS_in (L : List Int) (v : Nat) : L.any (· == (v : Int)) = decide ((v : Int) ∈ L) := by
  rw [Bool.eq_iff_iff, List.any_eq_true, decide_eq_true_eq]
  constructor
  · rintro ⟨x, h1, h2⟩
    have : x = v := by simpa using h2
    rw [← this]; exact h1
  · intro h; exact ⟨v, h, by simp⟩
theorem snS_set (L : List Int) (x : Nat) : (snS L).set x (.bool true) = snS (L ++ [(x : Int)]) := by
  apply List.ext_getElem (by simp [snS])
  intro v h1 h2
  rw [List.length_set, snS_len] at h1
  rw [List.getElem_set]
  have e : (snS (L ++ [(x : Int)]))[v]'h2 = .bool ((L ++ [(x : Int)]).any (· == (v : Int))) := by simp [snS]
  rw [e, List.any_append]
  by_cases ev : x = v
  · rw [if_pos ev]; subst ev; simp
  · rw [if_neg ev]
    have : (snS L)[v]'(by rw [snS_len]; exact h1) = .bool (L.any (· == (v : Int))) := by simp [snS]
    rw [this]
    have hf : ((x : Int) == (v : Int)) = false := by rw [beq_eq_false_iff_ne]; omega
    simp [hf]
def ChkSaid (ls : List (List Int)) (w : World) (e : Ending) (w' : World) : Prop :=
  ∃ er : Int, e = .returned (.int .i64 er) ∧ ((er = 0 ∧ TabOk ls) ∨ (er ≠ 0 ∧ ¬ TabOk ls)) ∧ Fr w w' []
set_option maxRecDepth 100000 in
set_option maxHeartbeats 8000000 in
theorem tabChk (R : List Rw) (ls : List (List Int)) (n : Nat) (a : Option Addr) (cap : Nat) (w : World) (h : Rm w a R) (hls : lsR R = ls) (hn : ls.length = n) (hm : n ≤ 9223372036854775807) (hl : ∀ i, i < n → lenN ls i ≤ 9223372036854775807) :
    Calls Try.prog 78 #[.slice a n cap] w (ChkSaid ls w) := by
  have HN := Lib.hid hn; have HR := Lib.hid h; have HL := Lib.hid hls; have HB := Lib.hid hl
  clear h hls hn hl
  by_cases h10 : n ≤ 10
  · have htt : totN (ls.take n) = totN ls := by rw [List.take_of_length_le (by rw [HN.out]; exact Nat.le_refl _)]
    have HTT := Lib.hid htt
    clear htt
    go_enter Try.func78, Try.ntmps78
    go_wp2_with fail
    go_loop [3, 13] (fun s i => ∃ (k : Nat) (S : Int), k ≤ n ∧ i = .int .i64 k ∧ s = .int .i64 S ∧ Hid (totN (ls.take k) ≤ 10 → S = (totN (ls.take k) : Nat))) (fun _ i => n - (intOf i).toNat)
    case atStart => exact ⟨0, 0, by omega, rfl, rfl, Lib.hid fun _ => by simp [totN]⟩
    case round =>
      obtain ⟨k, S, hk, rfl, rfl, HTS⟩ := hrel
      by_cases hlt : k < n
      · obtain ⟨b, off, a1, c1, rfl, -, x1, s1⟩ := HR.out.rowAt HL.out k (by rw [HN.out]; exact hlt)
        have hst := totN_take ls k (by rw [HN.out]; exact hlt)
        have b2 := HB.out k hlt
        have hlen : (ls.getD k []).length = lenN ls k := rfl
        rw [hlen] at x1
        have HST := Lib.hid hst
        obtain ⟨m, hm2⟩ : ∃ m, lenN ls k = m := ⟨_, rfl⟩
        rw [hm2] at x1 b2 HST
        clear hst hlen hm2 s1
        go_wp2_with fail
        exact ⟨⟨k + 1, _, by omega, by simp, rfl, Lib.hid fun ht => by
          rw [HST.out] at ht ⊢
          have := HTS.out (by omega)
          subst this
          unfold wrap64; omega⟩, by simp only [intOf]; omega⟩
      · obtain rfl : k = n := by omega
        rw [HTT.out] at HTS
        have HSS : Hid (totN ls ≤ 10 → S = (totN ls : Nat)) := HTS
        clear hlt HTS
        by_cases hS10 : S ≤ 10
        · have d1 : decide ((10 : Int) < S) = false := decide_eq_false (by omega)
          have d2 : decide ((10 : Int) < (k : Int)) = false := decide_eq_false (by omega)
          have HF1 := Lib.hid ((Fr.start w).new 138 #[.bool false, .bool false, .bool false, .bool false, .bool false, .bool false, .bool false, .bool false, .bool false, .bool false] (snS []) rfl 10 rfl (by omega))
          go_wp2_with fail
          obtain ⟨G, hG⟩ : ∃ G, w.heap.size = G := ⟨_, rfl⟩
          rw [hG] at HF1 ⊢
          clear hG d1 d2
          go_loopw [31] (fun i wr => ∃ r : Nat, r ≤ k ∧ i = .int .i64 r ∧ Hid (∀ j, j < r → rowOk ls j ∧ ∀ q, q < lenN ls j → cellS S ls j q) ∧ Hid (Fr w wr [⟨138, .slice (some ⟨G, 0, .none⟩) 10 10, snS (befo ls r 0)⟩])) (fun i _ => k - (intOf i).toNat)
          case atStart => exact ⟨0, by omega, rfl, Lib.hid (fun j hj => by omega), by simpa [befo] using HF1⟩
          case round =>
            obtain ⟨i, hi, rfl, HOK, HF⟩ := hrel
            clear HF1
            by_cases hlt : i < k
            · obtain ⟨b, off, a1, c1, rfl, hb, xw, s1⟩ := HR.out.rowAt HL.out i (by rw [HN.out]; exact hlt)
              have x1 := (HF.out.bel.cell (p := ⟨b, off + i, .none⟩) hb).trans xw
              have HBB := Lib.hid hb
              clear xw hb
              have hprev : 0 < i → ∃ a2 c2, w.cell? ⟨b, off + (i - 1), .none⟩ = some (.slice a2 (lenN ls (i - 1)) c2) ∧ Sa w a2 (ints (ls.getD (i - 1) [])) := fun h0 => by
                obtain ⟨_, _, a2, c2, e, _, x2, s2⟩ := HR.out.rowAt HL.out (i - 1) (by rw [HN.out]; omega)
                cases e
                exact ⟨a2, c2, x2, s2⟩
              have HPV := Lib.hid hprev
              have HS1 : Hid (Sa w a1 (ints (ls.getD i []))) := Lib.hid s1
              have hlen : (ls.getD i []).length = lenN ls i := rfl
              rw [hlen] at x1
              have hltot := HB.out i hlt
              obtain ⟨m, hm2⟩ : ∃ m, lenN ls i = m := ⟨_, rfl⟩
              rw [hm2] at x1 hltot
              have HM := Lib.hid hm2
              obtain ⟨C, hC⟩ : ∃ C : Bool, C = true ↔ ¬ rowOk ls i := by
                by_cases hr : rowOk ls i
                · exact ⟨false, by simp [hr]⟩
                · exact ⟨true, by simp [hr]⟩
              have HC := Lib.hid hC
              clear hprev s1 hlen hm2 hC
              go_upto_region 13 with (fail)
              go_cut [53] from 36 to 105 (fun c wc => c = .bool C ∧ wc = wr)
              case first =>
                rcases Nat.eq_zero_or_pos m with h0 | h0
                · have hv : C = true := HC.out.2 (fun h => by have := h.1; rw [HM.out] at this; omega)
                  subst hv; subst h0
                  go_wp2_with fail
                  go_meet
                  exact ⟨rfl, rfl⟩
                · have z0 : ((m : Int) == 0) = false := by rw [beq_eq_false_iff_ne]; omega
                  rcases Nat.eq_zero_or_pos i with hi0 | hi0
                  · have hv : C = false := by
                      cases C
                      · rfl
                      · exact absurd ⟨by rw [HM.out]; exact h0, fun h => by omega⟩ (HC.out.1 rfl)
                    subst hv; subst hi0
                    rw [Nat.add_zero] at x1
                    go_wp2_with fail
                    go_meet
                    exact ⟨rfl, rfl⟩
                  · obtain ⟨a2, c2, x2w, -⟩ := HPV.out hi0
                    have x2 := (HF.out.bel.cell (p := ⟨b, off + (i - 1), .none⟩) HBB.out).trans x2w
                    clear x2w
                    obtain ⟨pm, hpm⟩ : ∃ pm, lenN ls (i - 1) = pm := ⟨_, rfl⟩
                    rw [hpm] at x2
                    have hv : decide (pm < m) = C := by
                      cases C
                      · have hr : rowOk ls i := Classical.byContradiction fun h => by have := HC.out.2 h; cases this
                        have := hr.2 hi0
                        rw [HM.out, hpm] at this
                        exact decide_eq_false (by omega)
                      · refine decide_eq_true (Nat.not_le.1 fun h => HC.out.1 rfl ⟨by rw [HM.out]; exact h0, fun _ => ?_⟩)
                        rw [HM.out, hpm]; omega
                    have g0 : decide ((0 : Int) < (i : Int)) = true := decide_eq_true (by omega)
                    clear hpm
                    go_wp2_with fail
                    go_meet
                    exact ⟨by first | rfl | rw [hv], rfl⟩
              case rest =>
              obtain ⟨rfl, rfl⟩ := hcut
              cases C
              · have HRO : Hid (rowOk ls i) := Lib.hid (Classical.byContradiction fun h => by have := HC.out.2 h; cases this)
                clear HC
                go_wp2_with fail
                go_loopw [56] (fun q wq => ∃ t : Nat, t ≤ m ∧ q = .int .i64 t ∧ Hid (∀ j, j < t → cellS S ls i j) ∧ Hid (Fr w wq [⟨138, .slice (some ⟨G, 0, .none⟩) 10 10, snS (befo ls i t)⟩])) (fun q _ => m - (intOf q).toNat)
                case atStart => exact ⟨0, by omega, rfl, Lib.hid (fun j hj => by omega), HF⟩
                case round =>
                  obtain ⟨t, ht, rfl, HCK, HFQ⟩ := hrel
                  by_cases hlt2 : t < m
                  · obtain ⟨b1, o1, rfl, hb1, y1⟩ := (HFQ.out.old HS1.out).int t (by show t < lenN ls i; rw [HM.out]; exact hlt2)
                    have hcell : nth (ls.getD i []) t = cellN ls i t := rfl
                    rw [hcell] at y1
                    have hprv : 0 < t → wr.cell? ⟨b1, o1 + (t - 1), .none⟩ = some (.int .i64 (cellN ls i (t - 1))) := fun h0 => by
                      obtain ⟨_, _, e, _, y2⟩ := (HFQ.out.old HS1.out).int (t - 1) (by show t - 1 < lenN ls i; rw [HM.out]; omega)
                      cases e
                      exact y2
                    have HPR := Lib.hid hprv
                    have habv : 0 < i → ∃ b2 o2 c2, wr.cell? ⟨b, off + (i - 1), .none⟩ = some (.slice (some ⟨b2, o2, .none⟩) (lenN ls (i - 1)) c2) ∧ wr.cell? ⟨b2, o2 + t, .none⟩ = some (.int .i64 (cellN ls (i - 1) t)) ∧ t < lenN ls (i - 1) := fun h0 => by
                      obtain ⟨a2, c2, x2, s2⟩ := HPV.out h0
                      have hle := HRO.out.2 h0
                      rw [HM.out] at hle
                      obtain ⟨b2, o2, rfl, _, y2⟩ := (HFQ.out.old s2).int t (by show t < lenN ls (i - 1); omega)
                      exact ⟨b2, o2, c2, (HFQ.out.bel.cell (p := ⟨b, off + (i - 1), .none⟩) HBB.out).trans x2, y2, by omega⟩
                    have HAB := Lib.hid habv
                    have hcl : cellS S ls i t ↔ (0 ≤ cellN ls i t ∧ cellN ls i t < S ∧ cellN ls i t ∉ befo ls i t ∧ (0 < t → cellN ls i (t - 1) ≤ cellN ls i t) ∧ (0 < i → cellN ls (i - 1) t ≤ cellN ls i t)) := Iff.rfl
                    have HCL := Lib.hid hcl
                    have HBS := Lib.hid (befo_step ls i t (by rw [HM.out]; exact hlt2))
                    obtain ⟨x, hx⟩ : ∃ x, cellN ls i t = x := ⟨_, rfl⟩
                    rw [hx] at y1 HCL HBS
                    obtain ⟨D, hD⟩ : ∃ D : Bool, D = true ↔ ¬ cellS S ls i t := by
                      by_cases hr : cellS S ls i t
                      · exact ⟨false, by simp [hr]⟩
                      · exact ⟨true, by simp [hr]⟩
                    have HD := Lib.hid hD
                    have DT : Hid (¬ cellS S ls i t → D = true) := Lib.hid hD.2
                    have DF : Hid (cellS S ls i t → D = false) := Lib.hid fun h => by cases D; rfl; exact absurd h (hD.1 rfl)
                    have seenC : Hid (∀ X : Nat, X < 10 → wr.cell? ⟨G, X, .none⟩ = some (.bool (decide ((X : Int) ∈ befo ls i t))) ∧ wr.frozen? ⟨G, X, .none⟩ = false) := Lib.hid fun X hX => by
                      obtain ⟨g, e, _, _, hh, hz⟩ := HFQ.out.open (by rw [snS_len]; omega)
                      cases e
                      exact ⟨by rw [hh X (by rw [snS_len]; exact hX), snS_get _ X hX, snS_in], hz X⟩
                    clear hcell hprv habv hcl hx hD
                    go_upto_region 18 with (fail)
                    go_cut [101] from 61 to 104 (fun c wc => c = .bool D ∧ wc = wr)
                    case first =>
                      by_cases k1 : x < 0
                      · have g1 : decide (x < 0) = true := decide_eq_true k1
                        have hv : D = true := DT.out (fun h => by have := (HCL.out.1 h).1; omega)
                        subst hv
                        go_wp2_with fail
                        go_meet
                        exact ⟨rfl, rfl⟩
                      · have g1 : decide (x < 0) = false := decide_eq_false k1
                        obtain ⟨X, rfl⟩ : ∃ X : Nat, x = X := ⟨x.toNat, by omega⟩
                        by_cases k2 : S ≤ (X : Int)
                        · have g2 : decide (S ≤ (X : Int)) = true := decide_eq_true k2
                          have hv : D = true := DT.out (fun h => by have := (HCL.out.1 h).2.1; omega)
                          subst hv
                          go_wp2_with fail
                          go_meet
                          exact ⟨rfl, rfl⟩
                        · have g2 : decide (S ≤ (X : Int)) = false := decide_eq_false k2
                          obtain ⟨sc, sz⟩ := seenC.out X (by omega)
                          have g3 : (0 : Int) ≤ (X : Int) := by omega
                          have g4 : (X : Int) < 10 := by omega
                          have g5 : decide ((X : Int) < 0) = false := decide_eq_false (by omega)
                          have g6 : decide ((9 : Int) < (X : Int)) = false := decide_eq_false (by omega)
                          by_cases k3 : (X : Int) ∈ befo ls i t
                          · rw [decide_eq_true k3] at sc
                            have HK3 := Lib.hid k3
                            clear k3
                            have hv : D = true := DT.out (fun h => (HCL.out.1 h).2.2.1 HK3.out)
                            subst hv
                            go_wp2_with fail
                            go_meet
                            exact ⟨rfl, rfl⟩
                          · rw [decide_eq_false k3] at sc
                            have HK3 := Lib.hid k3
                            clear k3
                            have last : Hid ((0 < t → cellN ls i (t - 1) ≤ (X : Int)) → (0 < i → cellN ls (i - 1) t ≤ (X : Int)) → cellS S ls i t) := Lib.hid fun h1 h2 => HCL.out.2 ⟨g3, by omega, HK3.out, h1, h2⟩
                            rcases Nat.eq_zero_or_pos t with ht0 | ht0
                            · have g7 : decide (0 < t) = false := decide_eq_false (by omega)
                              have g7' : ¬ 0 < t := by omega
                              have HT0 := Lib.hid ht0
                              clear ht0
                              rcases Nat.eq_zero_or_pos i with hi0 | hi0
                              · subst hi0
                                rw [Nat.add_zero] at x1
                                have hv : D = false := DF.out (last.out (fun h => by have := HT0.out; omega) (fun h => by omega))
                                subst hv
                                go_wp2_with fail
                                go_meet
                                exact ⟨rfl, rfl⟩
                              · obtain ⟨b2, o2, c2, u1, u2, u3⟩ := HAB.out hi0
                                have g8 : decide ((0 : Int) < (i : Int)) = true := decide_eq_true (by omega)
                                obtain ⟨z, hz⟩ : ∃ z, cellN ls (i - 1) t = z := ⟨_, rfl⟩
                                rw [hz] at u2
                                obtain ⟨pm, hpm⟩ : ∃ pm, lenN ls (i - 1) = pm := ⟨_, rfl⟩
                                rw [hpm] at u1 u3
                                have HZ := Lib.hid hz
                                have i1 : (0 : Int) ≤ (t : Int) := by omega
                                have i2 : (t : Int) < (pm : Int) := by omega
                                clear hz hpm
                                by_cases k5 : (X : Int) < z
                                · have g9 : decide ((X : Int) < z) = true := decide_eq_true k5
                                  have hv : D = true := DT.out (fun h => by have := (HCL.out.1 h).2.2.2.2 hi0; rw [HZ.out] at this; omega)
                                  subst hv
                                  go_wp2_with fail
                                  go_meet
                                  exact ⟨rfl, rfl⟩
                                · have g9 : decide ((X : Int) < z) = false := decide_eq_false k5
                                  have hv : D = false := DF.out (last.out (fun h => by have := HT0.out; omega) (fun _ => by rw [HZ.out]; omega))
                                  subst hv
                                  go_wp2_with fail
                                  go_meet
                                  exact ⟨rfl, rfl⟩
                            · have y2 := HPR.out ht0
                              have g7 : decide ((0 : Int) < (t : Int)) = true := decide_eq_true (by omega)
                              obtain ⟨y, hy⟩ : ∃ y, cellN ls i (t - 1) = y := ⟨_, rfl⟩
                              rw [hy] at y2
                              have HY := Lib.hid hy
                              clear hy
                              by_cases k4 : (X : Int) < y
                              · have g10 : decide ((X : Int) < y) = true := decide_eq_true k4
                                have hv : D = true := DT.out (fun h => by have := (HCL.out.1 h).2.2.2.1 ht0; rw [HY.out] at this; omega)
                                subst hv
                                go_wp2_with fail
                                go_meet
                                exact ⟨rfl, rfl⟩
                              · have g10 : decide ((X : Int) < y) = false := decide_eq_false k4
                                rcases Nat.eq_zero_or_pos i with hi0 | hi0
                                · subst hi0
                                  rw [Nat.add_zero] at x1
                                  have hv : D = false := DF.out (last.out (fun _ => by rw [HY.out]; omega) (fun h => by omega))
                                  subst hv
                                  go_wp2_with fail
                                  go_meet
                                  exact ⟨rfl, rfl⟩
                                · obtain ⟨b2, o2, c2, u1, u2, u3⟩ := HAB.out hi0
                                  have g8 : decide ((0 : Int) < (i : Int)) = true := decide_eq_true (by omega)
                                  obtain ⟨z, hz⟩ : ∃ z, cellN ls (i - 1) t = z := ⟨_, rfl⟩
                                  rw [hz] at u2
                                  obtain ⟨pm, hpm⟩ : ∃ pm, lenN ls (i - 1) = pm := ⟨_, rfl⟩
                                  rw [hpm] at u1 u3
                                  have HZ := Lib.hid hz
                                  have i1 : (0 : Int) ≤ (t : Int) := by omega
                                  have i2 : (t : Int) < (pm : Int) := by omega
                                  clear hz hpm
                                  by_cases k5 : (X : Int) < z
                                  · have g9 : decide ((X : Int) < z) = true := decide_eq_true k5
                                    have hv : D = true := DT.out (fun h => by have := (HCL.out.1 h).2.2.2.2 hi0; rw [HZ.out] at this; omega)
                                    subst hv
                                    go_wp2_with fail
                                    go_meet
                                    exact ⟨rfl, rfl⟩
                                  · have g9 : decide ((X : Int) < z) = false := decide_eq_false k5
                                    have hv : D = false := DF.out (last.out (fun _ => by rw [HY.out]; omega) (fun _ => by rw [HZ.out]; omega))
                                    subst hv
                                    go_wp2_with fail
                                    go_meet
                                    exact ⟨rfl, rfl⟩
                    case rest =>
                    obtain ⟨rfl, rfl⟩ := hcut
                    cases D
                    · have HCO : Hid (cellS S ls i t) := Lib.hid (Classical.byContradiction fun h => by have := DT.out h; cases this)
                      obtain ⟨r1, r2, r3, -⟩ := HCL.out.1 HCO.out
                      obtain ⟨X, rfl⟩ : ∃ X : Nat, x = X := ⟨x.toNat, by omega⟩
                      obtain ⟨sc, sz⟩ := seenC.out X (by omega)
                      have HF2 := Lib.hid (HFQ.out.set X (.bool true))
                      rw [snS_set, ← HBS.out] at HF2
                      have g5 : decide ((X : Int) < 0) = false := decide_eq_false (by omega)
                      have g6 : decide ((9 : Int) < (X : Int)) = false := decide_eq_false (by omega)
                      have g7 : X < 10 := by omega
                      clear r3 HD DT DF seenC HCL
                      go_wp2_with fail
                      go_roundw
                      case rel => exact ⟨t + 1, by omega, by go_num, Lib.hid (fun j hj => by
                        by_cases e : j = t
                        · rw [e]; exact HCO.out
                        · exact HCK.out j (by omega)), HF2⟩
                      case measure => simp only [intOf]; omega
                    · have HNO : Hid (¬ TabOk ls) := Lib.hid fun h => HD.out.1 rfl (cellS_of HSS.out h i t (by rw [HN.out]; exact hlt) (by rw [HM.out]; exact hlt2))
                      go_wp2_with fail
                      go_ret
                      exact ⟨3, rfl, .inr ⟨by decide, HNO.out⟩, HFQ.out.below⟩
                  · obtain rfl : t = m := by omega
                    have HF3 : Hid (Fr w wr [⟨138, .slice (some ⟨G, 0, .none⟩) 10 10, snS (befo ls (i + 1) 0)⟩]) := Lib.hid (by
                      rw [befo_next ls i (by rw [HN.out]; exact hlt), HM.out]; exact HFQ.out)
                    go_wp2_with fail
                    exact ⟨⟨i + 1, by omega, by simp, Lib.hid (fun j hj => by
                      by_cases e : j = i
                      · rw [e]; exact ⟨HRO.out, fun q hq => HCK.out q (by rw [HM.out] at hq; exact hq)⟩
                      · exact HOK.out j (by omega)), HF3⟩, by simp only [intOf]; omega⟩
              · have HNO : Hid (¬ TabOk ls) := Lib.hid fun h => HC.out.1 rfl (h.row i (by rw [HN.out]; exact hlt))
                go_wp2_with fail
                go_ret
                exact ⟨3, rfl, .inr ⟨by decide, HNO.out⟩, HF.out.below⟩
            · obtain rfl : i = k := by omega
              have hok : TabOk ls := tabOk_all HSS.out hS10 (by rw [HN.out]; exact h10) (fun j hj => (HOK.out j (by rw [HN.out] at hj; exact hj)).1) (fun j q hj hq => (HOK.out j (by rw [HN.out] at hj; exact hj)).2 q hq)
              go_wp2_with fail
              go_ret
              exact ⟨0, rfl, .inl ⟨rfl, hok⟩, HF.out.below⟩
        · have hno : ¬ TabOk ls := fun h => by have := h.tot; have := HSS.out this; omega
          have d1 : decide ((10 : Int) < S) = true := decide_eq_true (by omega)
          go_wp2_with fail
          go_ret
          exact ⟨2, rfl, .inr ⟨by decide, hno⟩, Fr.start _⟩
  · have hno : ¬ TabOk ls := fun h => by have := h.few; rw [HN.out] at this; omega
    have HNO := Lib.hid hno
    clear hno
    go_enter Try.func78, Try.ntmps78
    go_wp2_with fail
    go_loop [3, 13] (fun s i => ∃ (k : Nat) (S : Int), k ≤ n ∧ i = .int .i64 k ∧ s = .int .i64 S) (fun _ i => n - (intOf i).toNat)
    case atStart => exact ⟨0, 0, by omega, rfl, rfl⟩
    case round =>
      obtain ⟨k, S, hk, rfl, rfl⟩ := hrel
      by_cases hlt : k < n
      · obtain ⟨b, off, a1, c1, rfl, -, x1, s1⟩ := HR.out.rowAt HL.out k (by rw [HN.out]; exact hlt)
        obtain ⟨m, hm2⟩ : ∃ m, (ls.getD k []).length = m := ⟨_, rfl⟩
        rw [hm2] at x1
        clear hm2 s1
        go_wp2_with fail
        exact ⟨⟨k + 1, _, by omega, by simp, rfl⟩, by simp only [intOf]; omega⟩
      · obtain rfl : k = n := by omega
        have d2 : decide ((10 : Int) < (k : Int)) = true := decide_eq_true (by omega)
        by_cases hS : (10 : Int) < S
        · have d1 : decide ((10 : Int) < S) = true := decide_eq_true hS
          go_wp2_with fail
          go_ret
          exact ⟨2, rfl, .inr ⟨by decide, HNO.out⟩, Fr.start _⟩
        · have d1 : decide ((10 : Int) < S) = false := decide_eq_false hS
          go_wp2_with fail
          go_ret
          exact ⟨2, rfl, .inr ⟨by decide, HNO.out⟩, Fr.start _⟩
end Go.Proofs.Ytooghdnlaonkaaa
