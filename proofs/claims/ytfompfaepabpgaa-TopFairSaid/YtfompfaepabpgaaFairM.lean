/- A hall of a, b, c ..: fair turns, and all lots: in plain words. -/
import Derived.Test.YtfompfaepabpgaaLotP
import Derived.Test.YtfompfaepabpgaaHalT
namespace Go.Proofs.Ytfompfaepabpgaa
open Go.RowKit

def nmI (i : Nat) : ByteArray := ⟨#[UInt8.ofNat (97 + i)]⟩
def mkM (l wn : List Int) : List Mem := (List.range l.length).map fun i => ⟨nmI i, nth l i, nth wn i⟩
theorem mkM_len (l wn : List Int) : (mkM l wn).length = l.length := by simp [mkM]
theorem mkM_at (l wn : List Int) (i : Nat) (h : i < l.length) : (mkM l wn)[i]? = some ⟨nmI i, nth l i, nth wn i⟩ := by
  unfold mkM
  rw [List.getElem?_map, List.getElem?_range h]; rfl
theorem nmI_inj : ∀ i, i < 9 → ∀ j, j < 9 → nmI i = nmI j → i = j := by decide
theorem nmI_named : ∀ i, i < 8 → namedB (nmI i) = true := by decide
theorem tks_mkM (l wn : List Int) : tksL (mkM l wn) = l := by
  refine ext_nth (by rw [tksL_len, mkM_len]) fun i hi => ?_
  rw [tksL_len, mkM_len] at hi
  rw [tksL_nth (mkM_at l wn i hi)]
theorem wns_mkM (l wn : List Int) (h : wn.length = l.length) : wnsL (mkM l wn) = wn := by
  refine ext_nth (by rw [wnsL_len, mkM_len, h]) fun i hi => ?_
  rw [wnsL_len, mkM_len] at hi
  rw [wnsL_nth (mkM_at l wn i hi)]
theorem mkM_nd (l wn : List Int) (h : l.length ≤ 8) : (nmsM (mkM l wn)).Nodup := by
  unfold nmsM mkM
  rw [List.map_map]
  refine List.pairwise_map.2 (List.Pairwise.imp_of_mem (fun {i j} hi hj hne e => ?_) List.nodup_range)
  rw [List.mem_range] at hi hj
  exact hne (nmI_inj i (by omega) j (by omega) e)
theorem findM_mkM (l wn : List Int) (h8 : l.length ≤ 8) (i : Nat) (h : i < l.length) : findM (nmI i) (mkM l wn) = i := findM_nodup (m := ⟨nmI i, nth l i, nth wn i⟩) (mkM_nd l wn h8) (mkM_at l wn i h)
theorem findM_none {nm : ByteArray} {M : List Mem} (h : nm ∉ nmsM M) : findM nm M = M.length := by
  rcases Nat.lt_or_ge (findM nm M) M.length with h1 | h1
  · exact absurd (findM_mem h1) h
  · exact Nat.le_antisymm (findM_le _ _) h1
theorem mkM_snoc (l wn : List Int) (n : Int) (h : wn.length = l.length) : mkM (l ++ [n]) (wn ++ [0]) = mkM l wn ++ [⟨nmI l.length, n, 0⟩] := by
  apply List.ext_getElem?
  intro i
  rcases Nat.lt_or_ge i l.length with hi | hi
  · rw [mkM_at _ _ _ (by simp; omega), List.getElem?_append_left (by rw [mkM_len]; exact hi), mkM_at _ _ _ hi]
    simp [nth, List.getElem?_append_left hi, List.getElem?_append_left (h.symm ▸ hi)]
  · rcases Nat.lt_or_ge l.length i with h2 | h2
    · rw [List.getElem?_eq_none (by rw [mkM_len]; simp; omega), List.getElem?_eq_none (by rw [List.length_append, mkM_len]; simp; omega)]
    · have : i = l.length := by omega
      subst this
      rw [mkM_at _ _ _ (by simp), List.getElem?_append_right (by rw [mkM_len]; exact Nat.le_refl _), mkM_len, Nat.sub_self]
      have : nth (wn ++ [0]) l.length = 0 := by rw [← h]; simp [nth]
      rw [this]
      simp [nth]
theorem join_mkM (l wn : List Int) (n : Int) (h : wn.length = l.length) (h8 : l.length < 8) (h0 : 0 ≤ n) (h1 : n ≤ 100) :
    doS ⟨mkM l wn, []⟩ 1 n (nmI l.length) ⟨#[]⟩ = ⟨⟨mkM (l ++ [n]) (wn ++ [0]), []⟩, ⟨#[]⟩, 0, 0⟩ := by
  have hnm : nmI l.length ∉ nmsM (mkM l wn) := fun hm => by
    unfold nmsM mkM at hm
    rw [List.map_map] at hm
    obtain ⟨i, hi, e⟩ := List.mem_map.1 hm
    rw [List.mem_range] at hi
    have := nmI_inj i (by omega) l.length (by omega) e
    omega
  have hfi : fiV (nmI l.length) (mkM l wn) = -1 := by unfold fiV; rw [findM_none hnm, if_neg (Nat.lt_irrefl _)]
  have hj : joinE ⟨mkM l wn, []⟩ (-1) n = 0 := by
    unfold joinE
    rw [if_neg (by omega), if_neg (by omega), if_neg (by show ¬ (mkM l wn).length = 8; rw [mkM_len]; omega)]
  unfold doS
  rw [if_neg (by decide), if_neg (by decide), if_pos (.inl rfl), if_neg (by rw [nmI_named _ h8]; simp), if_pos rfl]
  simp only [hfi, hj]
  unfold joinW
  rw [if_pos hj, mkM_snoc l wn n h]
theorem mkM_set (l wn : List Int) (i : Nat) (v : Int) (hi : i < l.length) (h : wn.length = l.length) : (mkM l wn).set i ⟨nmI i, nth l i, v⟩ = mkM l (wn.set i v) := by
  apply List.ext_getElem?
  intro j
  rw [List.getElem?_set]
  by_cases e : i = j
  · subst e
    rw [if_pos rfl, if_pos (by rw [mkM_len]; exact hi), mkM_at _ _ _ hi, nth_set _ _ _ _ (by omega), if_pos rfl]
  · rw [if_neg e]
    rcases Nat.lt_or_ge j l.length with hj | hj
    · rw [mkM_at _ _ _ hj, mkM_at _ _ _ hj, nth_set_ne _ _ _ _ e]
    · rw [List.getElem?_eq_none (by rw [mkM_len]; exact hj), List.getElem?_eq_none (by rw [mkM_len]; exact hj)]
theorem won_mkM (l wn : List Int) (i : Nat) (hi : i < l.length) (h : wn.length = l.length) : wonS ⟨mkM l wn, []⟩ ((i : Int), 0) = ⟨⟨mkM l (wn.set i (nth wn i + 1)), []⟩, nmI i, nth wn i + 1, 0⟩ := by
  unfold wonS
  rw [if_pos rfl, Int.toNat_natCast, show (HSt.mk (mkM l wn) []).M[i]? = some ⟨nmI i, nth l i, nth wn i⟩ from mkM_at l wn i hi]
  simp only [setW]
  rw [mkM_set l wn i _ hi h]
/-- one fair turn more -/
theorem fair_mkM {l : List Int} (hs : Some1 l) (t : Nat) (ht : t ≤ 1000000000) : (doS ⟨mkM l (hadAt l t), []⟩ 7 0 ⟨#[]⟩ ⟨#[]⟩).er = 0 ∧ (doS ⟨mkM l (hadAt l t), []⟩ 7 0 ⟨#[]⟩ ⟨#[]⟩).s = ⟨mkM l (hadAt l (t + 1)), []⟩ := by
  have hb := bst_of (had := hadAt l t) hs
  have hF := fair_at hs t
  have hn : nextW l (hadAt l t) = (((bst l (hadAt l t) : Nat) : Int), 0) := by
    unfold nextW
    rw [if_neg, if_neg, hb.1]
    · rw [hb.1]; omega
    · rw [Bool.not_eq_true, List.any_eq_false]
      intro x hx
      obtain ⟨i, hi, e⟩ := List.getElem_of_mem hx
      have := (hF.pos i (by rw [← hF.len]; exact hi)).2
      have e2 : nth (hadAt l t) i = x := by rw [← e]; simp [nth, hi]
      rw [e2] at this
      simp only [decide_eq_true_eq]; omega
  have e : doS ⟨mkM l (hadAt l t), []⟩ 7 0 ⟨#[]⟩ ⟨#[]⟩ = ⟨⟨mkM l ((hadAt l t).set (bst l (hadAt l t)) (nth (hadAt l t) (bst l (hadAt l t)) + 1)), []⟩, nmI (bst l (hadAt l t)), nth (hadAt l t) (bst l (hadAt l t)) + 1, 0⟩ := by
    unfold doS
    rw [if_neg (by decide), if_pos rfl]
    simp only [tks_mkM, wns_mkM _ _ (hadAt_len l t)]
    rw [hn, won_mkM l _ _ hb.2.1 (hadAt_len l t)]
  rw [e]
  exact ⟨rfl, by rw [hadAt]; rfl⟩
theorem lot_mkM {l : List Int} (t : Nat) (ht : (t : Int) < isum l) : (doS ⟨mkM l (runL l (rng t)), []⟩ 5 t ⟨#[]⟩ ⟨#[]⟩).er = 0 ∧ (doS ⟨mkM l (runL l (rng t)), []⟩ 5 t ⟨#[]⟩ ⟨#[]⟩).s = ⟨mkM l (runL l (rng (t + 1))), []⟩ := by
  have hlt := winL_lt l t (by omega) ht
  have hn : winW l t = (((winL l t : Nat) : Int), 0) := by
    unfold winW
    rw [if_neg (by omega), if_neg (by omega)]
  have e : doS ⟨mkM l (runL l (rng t)), []⟩ 5 t ⟨#[]⟩ ⟨#[]⟩ = ⟨⟨mkM l ((runL l (rng t)).set (winL l t) (nth (runL l (rng t)) (winL l t) + 1)), []⟩, nmI (winL l t), nth (runL l (rng t)) (winL l t) + 1, 0⟩ := by
    unfold doS
    rw [if_pos rfl]
    simp only [tks_mkM]
    rw [hn, won_mkM l _ _ hlt (runL_len _ _)]
  rw [e]
  exact ⟨rfl, by rw [rng_succ, runL_snoc _ _ _ hlt]⟩
theorem tell_mkM (l wn : List Int) (i : Nat) (h8 : l.length ≤ 8) (hi : i < l.length) : doS ⟨mkM l wn, []⟩ 6 0 (nmI i) ⟨#[]⟩ = ⟨⟨mkM l wn, []⟩, nmI i, nth wn i, 0⟩ := by
  have hm : (HSt.mk (mkM l wn) []).M[findM (nmI i) (HSt.mk (mkM l wn) []).M]? = some ⟨nmI i, nth l i, nth wn i⟩ := by
    show (mkM l wn)[findM (nmI i) (mkM l wn)]? = _
    rw [findM_mkM l wn h8 i hi]; exact mkM_at l wn i hi
  rw [doS_at (by omega) (nmI_named i (by omega)) hm]
  unfold atS
  rw [if_neg (by decide), if_neg (by decide), if_neg (by decide)]
theorem lots_all {l : List Int} (hp : ∀ x ∈ l, 0 ≤ x) : runL l (rng (isum l).toNat) = l := by
  refine ext_nth (by rw [runL_len]) fun i hi => ?_
  rw [runL_len] at hi
  rw [runL_nth _ _ _ hi]
  exact hits_rng l hp i hi
end Go.Proofs.Ytfompfaepabpgaa
