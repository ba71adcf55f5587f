/- Several of my texts in one: TabP. -/
import Derived.Test.YtooghdnlaonkaaaRw15
import Derived.Test.YtooghdnlaonkaaaRw29
import Derived.Test.YtooghdnlaonkaaaRw27
import Derived.Test.YtooghdnlaonkaaaRw30
import Derived.Deep.CutRange
/- Contract of tableau.put: a number is put into rows. -/
namespace Go.Proofs.Ytooghdnlaonkaaa
open Go.RowKit

theorem pI_of {T : List Int} {x : Int} {k : Nat} (hk : k < T.length) (h1 : decide (x < nth T k) = true) (h2 : ∀ i, i < k → decide (x < nth T i) = false) : pI T x = k := by
  unfold pI
  rw [List.findIdx_eq hk]
  refine ⟨by simpa [nth, hk] using h1, fun j hj => ?_⟩
  have := h2 j hj
  simpa [nth, show j < T.length by omega] using this
theorem pI_none {T : List Int} {x : Int} (h : ∀ i, i < T.length → decide (x < nth T i) = false) : pI T x = T.length := by
  unfold pI
  rw [List.findIdx_eq_length]
  intro y hy
  obtain ⟨i, hi, rfl⟩ := List.getElem_of_mem hy
  have := h i hi
  simpa [nth, hi] using this
/-- put from the row i on -/
def putL (ls : List (List Int)) (i : Nat) (x : Int) : List (List Int) × Nat := (ls.take i ++ (put (ls.drop i) x).1, i + (put (ls.drop i) x).2)
theorem putL_zero (ls : List (List Int)) (x : Int) : putL ls 0 x = put ls x := by simp [putL]
theorem putL_end (ls : List (List Int)) (x : Int) : putL ls ls.length x = (ls ++ [[x]], ls.length) := by simp [putL, put]
theorem drop_at (ls : List (List Int)) (i : Nat) (h : i < ls.length) : ls.drop i = ls[i] :: ls.drop (i + 1) := List.drop_eq_getElem_cons h
theorem set_take_drop (ls : List (List Int)) (i : Nat) (h : i < ls.length) (y : List Int) : ls.set i y = ls.take i ++ y :: ls.drop (i + 1) := by rw [List.set_eq_take_append_cons_drop, if_pos h]
theorem putL_new (ls : List (List Int)) (i : Nat) (h : i < ls.length) (x : Int) (hp : pI ls[i] x = ls[i].length) : putL ls i x = (ls.set i (ls[i] ++ [x]), i) := by
  unfold putL
  rw [drop_at ls i h, put, if_neg (by omega), set_take_drop ls i h]
  simp
theorem putL_bmp (ls : List (List Int)) (i : Nat) (h : i < ls.length) (x : Int) (hp : pI ls[i] x < ls[i].length) :
    putL ls i x = putL (ls.set i (ls[i].set (pI ls[i] x) x)) (i + 1) (nth ls[i] (pI ls[i] x)) := by
  unfold putL
  rw [drop_at ls i h, put, if_pos hp]
  have e1 : (ls.set i (ls[i].set (pI ls[i] x) x)).take (i + 1) = ls.take i ++ [ls[i].set (pI ls[i] x) x] := by
    rw [set_take_drop ls i h, List.take_append, List.length_take, Nat.min_eq_left (by omega), show i + 1 - i = 1 by omega, List.take_of_length_le (by rw [List.length_take]; omega)]; simp
  have e2 : (ls.set i (ls[i].set (pI ls[i] x) x)).drop (i + 1) = ls.drop (i + 1) := by rw [List.drop_set_of_lt (by omega)]
  rw [e1, e2]
  simp; omega

abbrev boxI (B : Nat) (x : Int) : Ent := ⟨3, .slice (some ⟨B, 0, .none⟩) 1 1, [.int .i64 x]⟩
theorem perm_erase {α : Type} (R : List α) (i : Nat) (h : i < R.length) : R.Perm (R[i] :: R.eraseIdx i) := by
  rw [List.eraseIdx_eq_take_drop_succ]
  have e : R = R.take i ++ R[i] :: R.drop (i + 1) := by rw [← List.drop_eq_getElem_cons h, List.take_append_drop]
  conv => lhs; rw [e]
  exact List.perm_middle
theorem perm_set {α : Type} (R : List α) (i : Nat) (h : i < R.length) (p : α) : (R.set i p).Perm (p :: R.eraseIdx i) := by
  rw [List.eraseIdx_eq_take_drop_succ, List.set_eq_take_append_cons_drop, if_pos h]
  exact List.perm_middle
/-- the row i ahead of all -/
theorem Fr.rowOut {w0 w : World} {R : List Rw} {M L : List Ent} (h : Fr w0 w (M ++ (R.map re ++ L))) (i : Nat) (hi : i < R.length) : Fr w0 w (re R[i] :: (M ++ ((R.eraseIdx i).map re ++ L))) := by
  refine h.perm ?_
  have h1 : (R.map re).Perm (re R[i] :: (R.eraseIdx i).map re) := by
    have := (perm_erase R i hi).map re
    simpa using this
  refine ((h1.append_right L).append_left M).trans ?_
  exact List.perm_middle
theorem Fr.rowIn {w0 w : World} {R : List Rw} {M L : List Ent} (i : Nat) (hi : i < R.length) (p : Rw) (h : Fr w0 w (re p :: (M ++ ((R.eraseIdx i).map re ++ L)))) : Fr w0 w (M ++ ((R.set i p).map re ++ L)) := by
  refine h.perm ?_
  have h1 : (re p :: (R.eraseIdx i).map re).Perm ((R.set i p).map re) := by
    have := (perm_set R i hi p).symm.map re
    simpa using this
  refine (List.perm_middle (a := re p) (l₁ := M) (l₂ := (R.eraseIdx i).map re ++ L)).symm.trans ?_
  exact (h1.append_right L).append_left M

theorem put1 (x y : Int) (b : Nat) (W : World) (hc : W.cell? ⟨b, 0, .none⟩ = some (.int .i64 x)) : Calls Try.prog 124 #[.int .i64 y, .pointer (some ⟨b, 0, .none⟩)] W fun e w' => e = .returned (.bool (decide (x < y))) ∧ W = w' := by
  go_enter Try.func124, Try.ntmps124
  go_wp2
  go_ret
  exact ⟨rfl, rfl⟩

def PutSaid (w0 : World) (ls : List (List Int)) (x : Int) (L : List Ent) (e : Ending) (w' : World) : Prop :=
  ∃ (ad : Option Addr) (n cap : Nat) (R : List Rw), e = .returned (.tuple #[.slice ad n cap, .int .i64 ((put ls x).2 : Nat)]) ∧ lsR R = (put ls x).1 ∧ R.length = n ∧ Fr w0 w' (outE ad n cap R :: (R.map re ++ L))
set_option maxRecDepth 100000 in
set_option maxHeartbeats 8000000 in
theorem tabPut (R0 : List Rw) (x0 : Int) (ad : Option Addr) (n cap : Nat) (L : List Ent) (w0 w : World) (F : Fr w0 w (outE ad n cap R0 :: (R0.map re ++ L))) (hn : R0.length = n) (hb : n ≤ 1000) (hl : ∀ p ∈ R0, p.2.2.length ≤ 1000) :
    Calls Try.prog 76 #[.slice ad n cap, .int .i64 x0] w (PutSaid w0 (lsR R0) x0 L) := by
  have HF := Lib.hid F; have HN := Lib.hid hn; have HLL := Lib.hid hl
  clear F hn hl
  go_enter Try.func76, Try.ntmps76
  go_wp2_with fail
  obtain ⟨B, hB⟩ : ∃ B, w.heap.size = B := ⟨_, rfl⟩
  have HF1 : Hid (Fr w0 (w.alloc (.cells #[.int .i64 x0] 3)) (boxI B x0 :: outE ad n cap R0 :: (R0.map re ++ L))) := Lib.hid (by
    have := HF.out.lit' [x0] #[.int .i64 x0] rfl 1 rfl (by omega) 3 B hB
    exact this)
  rw [hB]
  have HP0 := Lib.hid (putL_zero (lsR R0) x0)
  clear hB
  go_loopw [10] (fun i wr => ∃ (k : Nat) (R : List Rw) (x : Int), k ≤ n ∧ i = .int .i64 k ∧ Hid (R.length = n) ∧ Hid (∀ p ∈ R, p.2.2.length ≤ 1000) ∧ Hid (putL (lsR R) k x = put (lsR R0) x0) ∧ Hid (Fr w0 wr (boxI B x :: outE ad n cap R :: (R.map re ++ L)))) (fun i _ => n - (intOf i).toNat)
  case atStart => exact ⟨0, R0, x0, by omega, rfl, HN, HLL, HP0, HF1⟩
  case round =>
    obtain ⟨k, R, x, hk, rfl, HRN, HRL, HP, HF2⟩ := hrel
    clear HF HF1 HP0 HN HLL
    by_cases hlt : k < n
    · have hkR : k < R.length := by rw [HRN.out]; exact hlt
      obtain ⟨go, e, hgo1, hgo2, hgoc, hgoz⟩ := HF2.out.swap.open (by simp; omega)
      have hco := hgoc k (by simp; omega)
      have hzo := hgoz k
      have ho := HF2.out.rowOut (M := [boxI B x, outE ad n cap R]) k hkR
      rw [List.getElem?_map, List.getElem?_eq_getElem hkR] at hco
      have hlen := HRL.out _ (List.getElem_mem hkR)
      have HPN := Lib.hid (putL_new (lsR R) k (by rw [lsR_len]; exact hkR) x)
      have HPB := Lib.hid (putL_bmp (lsR R) k (by rw [lsR_len]; exact hkR) x)
      rw [lsR_get R k hkR] at HPN HPB
      obtain ⟨⟨a, c, l⟩, hp⟩ : ∃ p : Rw, R[k] = p := ⟨_, rfl⟩
      rw [hp] at hco ho hlen HPN HPB
      subst e
      obtain ⟨gb, eb, hgb1, hgb2, hgbc, hgbz⟩ := HF2.out.open (by simp)
      cases eb
      have hcb : wr.cell? ⟨B, 0, .none⟩ = some (.int .i64 x) := hgbc 0 (by simp)
      have hzb := hgbz 0
      have hne1 : B ≠ go := by
        have := (List.pairwise_cons.1 HF2.out.os.far).1 _ List.mem_cons_self
        rcases this with h | h
        · cases h
        · exact fun e => h (by rw [e]; rfl)
      have hcap : l.length ≤ c := ho.cap
      simp only [Option.map_some, rv] at hco
      have HO := Lib.hid ho
      clear ho hgbc hgbz hgoc hgoz hp
      have i1 : (0 : Int) ≤ (k : Int) := by omega
      have i2 : (k : Int) < (n : Int) := by omega
      obtain ⟨m, hm⟩ : ∃ m, l.length = m := ⟨_, rfl⟩
      have HM := Lib.hid hm
      rw [hm] at hco hlen hcap
      clear hm
      have hidx := idxF_any (fun y => decide (x < y)) 124 #[.pointer (some ⟨B, 0, .none⟩)] (enters_of Try.func124 (by kernel_rfl) rfl) l m a c wr (fun y => put1 x y B wr hcb) (by have := HO.out.get 0 rfl; exact this) HM.out (by omega)
      have HIDX := Lib.hid hidx
      clear hidx
      go_wp2_with fail
      refine HIDX.out.mono ?_
      rintro e w' ⟨r, rfl, hr, rfl⟩
      rcases hr with ⟨rfl, hnone⟩ | ⟨q, hq, rfl, hq1, hq2⟩
      · have HNEW := Lib.hid (HPN.out (pI_none (fun i hi => hnone i (by rw [HM.out] at hi; exact hi))))
        clear hnone HPB HPN HIDX
        have HKS : Hid (∀ w', Below wr.heap.size wr w' → w'.cell? ⟨go, k, .none⟩ = some (.slice a m c) ∧ w'.cell? ⟨B, 0, .none⟩ = some (.int .i64 x)) := Lib.hid fun w' hB => ⟨(hB.cell hgo2).trans hco, (hB.cell hgb2).trans hcb⟩
        have HSS := Lib.hid (HKS.out wr (Below.refl _ _))
        have HF3 : Hid (Fr w0 (wr.alloc (.cells #[.int .i64 x] 3)) (⟨3, .slice a m c, ints l⟩ :: ⟨3, .slice (some ⟨wr.heap.size, 0, .none⟩) 1 1, [.int .i64 x]⟩ :: ([boxI B x, outE (some ⟨go, 0, .none⟩) n cap R] ++ ((R.eraseIdx k).map re ++ L)))) := Lib.hid (by
          have := (HO.out.lit' [x] #[.int .i64 x] rfl 1 rfl (by omega) 3 wr.heap.size rfl).swap
          unfold re rv at this
          rw [show ((a, c, l) : Rw).2.2.length = m from HM.out] at this
          exact this)
        clear hco hcb
        go_wp2_with fail
        refine wp_region_U [8] (fun w' : World => w'.cell? ⟨go, k, .none⟩ = some (.slice a m c) ∧ w'.cell? ⟨B, 0, .none⟩ = some (.int .i64 x)) (by kernel_rfl) ?_
        have hSd : (fun w' : World => w'.cell? ⟨go, k, .none⟩ = some (.slice a m c) ∧ w'.cell? ⟨B, 0, .none⟩ = some (.int .i64 x)) wr.drew := HSS.out
        refine wpAnyU_takeY (i := 0) (v := ?_) rfl (by kernel_rfl) (by kernel_rfl) (by kernel_rfl) (by kernel_rfl) (fun _ _ _ h => h) (Or.inl ⟨by rfl, ?_⟩) (by assumption) ?_
        rotate_left
        · intro w _; go_simp; try with_reducible rfl
        try simp only [Act.put]
        try simp only [List.setIfInBounds_toArray]
        try simp only [List.set_cons_succ]
        try simp only [List.set_cons_zero]
        refine wpAnyU_takeY (i := 1) (v := ?_) rfl (by kernel_rfl) (by kernel_rfl) (by kernel_rfl) (by kernel_rfl) (fun _ _ _ h => h) (Or.inl ⟨by rfl, ?_⟩) (by assumption) ?_
        rotate_left
        · intro w _; go_simp; try with_reducible rfl
        try simp only [Act.put]
        try simp only [List.setIfInBounds_toArray]
        try simp only [List.set_cons_succ]
        try simp only [List.set_cons_zero]
        refine wpAnyU_takeY (i := 2) (v := ?_) rfl (by kernel_rfl) (by kernel_rfl) (by kernel_rfl) (by kernel_rfl) (fun _ _ _ h => h) (Or.inl ⟨by rfl, ?_⟩) (by assumption) ?_
        rotate_left
        · intro w _; go_simp; try with_reducible rfl
        try simp only [Act.put]
        try simp only [List.setIfInBounds_toArray]
        try simp only [List.set_cons_succ]
        try simp only [List.set_cons_zero]
        refine wpAnyU_takeY (i := 3) (v := ?_) rfl (by kernel_rfl) (by kernel_rfl) (by kernel_rfl) (by kernel_rfl) (fun _ _ _ h => h) (Or.inl ⟨by rfl, ?_⟩) (by assumption) ?_
        rotate_left
        · intro w _; go_simp; try with_reducible rfl
        try simp only [Act.put]
        try simp only [List.setIfInBounds_toArray]
        try simp only [List.set_cons_succ]
        try simp only [List.set_cons_zero]
        refine wpAnyU_takeY (i := 4) (v := ?_) rfl (by kernel_rfl) (by kernel_rfl) (by kernel_rfl) (by kernel_rfl) (fun _ _ _ h => h) (Or.inl ⟨by rfl, ?_⟩) (by assumption) ?_
        rotate_left
        · intro w _; go_simp; try with_reducible rfl
        try simp only [Act.put]
        try simp only [List.setIfInBounds_toArray]
        try simp only [List.set_cons_succ]
        try simp only [List.set_cons_zero]
        refine wpAnyU_take (i := 5) (v := ?_) rfl (by kernel_rfl) (by kernel_rfl) (by kernel_rfl) (by kernel_rfl) (by kernel_rfl) (by kernel_rfl) (fun _ _ _ h => h) (Or.inl ⟨by rfl, ?_⟩) (by assumption) ?_
        rotate_left
        · intro w hSw; obtain ⟨s1, s2⟩ := hSw; go_simp; try with_reducible rfl
        try simp only [Act.put]
        try simp only [List.setIfInBounds_toArray]
        try simp only [List.set_cons_succ]
        try simp only [List.set_cons_zero]
        refine wpAnyU_take (i := 6) (v := ?_) rfl (by kernel_rfl) (by kernel_rfl) (by kernel_rfl) (by kernel_rfl) (by kernel_rfl) (by kernel_rfl) (fun _ _ _ h => h) (Or.inl ⟨by rfl, ?_⟩) (by assumption) ?_
        rotate_left
        · intro w hSw; obtain ⟨s1, s2⟩ := hSw; go_simp; try with_reducible rfl
        try simp only [Act.put]
        try simp only [List.setIfInBounds_toArray]
        try simp only [List.set_cons_succ]
        try simp only [List.set_cons_zero]
        refine wpAnyU_ready (rs := [7]) (by kernel_rfl) (by simp) ?_
        refine AllReadyU.cons rfl (fun K hK => ?_) AllReadyU.nil
        go_simp
        refine hK.out _ _ (fun _ => HKS.out _ (kin_alloc (Below.refl _ _) _).drew) ?_
        clear hK K
        try simp only [Act.put]
        try simp only [List.setIfInBounds_toArray]
        try simp only [List.set_cons_succ]
        try simp only [List.set_cons_zero]
        refine wpAnyU_ready (rs := [8]) (by kernel_rfl) (by simp) ?_
        refine AllReadyU.cons rfl (fun K hK => ?_) AllReadyU.nil
        refine step_push rfl (.tmp 26) (.tmp 28) 32 3 (.int .i64 0) 8 Try.underlying32 intInfo rfl (by omega) (by rfl) a m c wr.heap.size (ints l) (.int .i64 x) ([boxI B x, outE (some ⟨go, 0, .none⟩) n cap R] ++ ((R.eraseIdx k).map re ++ L)) (by rfl) HF3.out.drew (by rfl) rfl (by omega) ?_
        intro ad' cp' w5 hf hsz
        have hf2 := hf.sub (.cons_cons _ (List.sublist_cons_self _ _))
        rw [ints_snoc] at hf2
        have hf3 := Fr.rowIn (M := [boxI B x, outE (some ⟨go, 0, .none⟩) n cap R]) k (by rw [HRN.out]; exact hlt) (ad', cp', l ++ [x]) (by unfold re rv; rw [show (l ++ [x]).length = m + 1 from by rw [List.length_append, HM.out]; rfl]; exact hf2)
        obtain ⟨g, e, -, -, hgc, hgz⟩ := hf3.swap.open (by simp; have := HRN.out; omega)
        cases e
        have hco := hgc k (by simp; have := HRN.out; omega)
        have hz := hgz k
        have hf4 := hf3.swap.set k (.slice ad' (m + 1) cp')
        have hset : (R.map rv).set k (.slice ad' (m + 1) cp') = (R.set k (ad', cp', l ++ [x])).map rv := by rw [List.map_set]; unfold rv; simp [HM.out]
        rw [hset] at hf4
        have HF5 := Lib.hid hf4.swap.tail
        clear hf hf2 hf3 hf4 hgc hgz hsz hset
        refine hK.out _ _ (fun h => absurd h (by decide +kernel)) ?_
        clear hK K
        try simp only [Act.put]
        try simp only [List.setIfInBounds_toArray]
        try simp only [List.set_cons_succ]
        try simp only [List.set_cons_zero]
        refine wpAnyU_ready (rs := [9]) (by kernel_rfl) (by simp) ?_
        refine AllReadyU.cons rfl (fun K hK => ?_) AllReadyU.nil
        go_simp
        refine hK.out _ _ (fun h => absurd h (by decide +kernel)) ?_
        clear hK K
        try simp only [Act.put]
        try simp only [List.setIfInBounds_toArray]
        try simp only [List.set_cons_succ]
        try simp only [List.set_cons_zero]
        refine wpAnyU_ready (rs := [10]) (by kernel_rfl) (by simp) ?_
        refine AllReadyU.cons rfl (fun K hK => ?_) AllReadyU.nil
        go_simp
        refine hK.out _ _ (fun h => absurd h (by decide +kernel)) ?_
        clear hK K
        try simp only [Act.put]
        try simp only [List.setIfInBounds_toArray]
        try simp only [List.set_cons_succ]
        try simp only [List.set_cons_zero]
        refine wpAnyU_done (by kernel_rfl) ?_ _
        go_wp2_with fail
        go_ret2
        have e1 : put (lsR R0) x0 = ((lsR R).set k (l ++ [x]), k) := by rw [← HP.out]; exact HNEW.out
        exact ⟨_, n, cap, R.set k (ad', cp', l ++ [x]), by rw [e1]; rfl, by rw [lsR_set, e1], by rw [List.length_set, HRN.out], HF5.out⟩
      · have hpI := pI_of (by rw [HM.out]; exact hq) hq1 hq2
        have HBMP := Lib.hid (HPB.out (by rw [hpI, HM.out]; exact hq))
        rw [hpI] at HBMP
        clear hq1 hq2 HPB HPN HIDX
        have HOM : Hid (Fr w0 wr (⟨3, .slice a m c, ints l⟩ :: ([boxI B x, outE (some ⟨go, 0, .none⟩) n cap R] ++ ((R.eraseIdx k).map re ++ L)))) := Lib.hid (by
          have := HO.out
          unfold re rv at this
          rw [show ((a, c, l) : Rw).2.2.length = m from HM.out] at this
          exact this)
        obtain ⟨gr, er, _, hgr2, hgrc, hgrz⟩ := HOM.out.open (by rw [ints_len, HM.out]; omega)
        subst er
        have hcr := hgrc q (by rw [ints_len, HM.out]; exact hq)
        have hzr := hgrz q
        rw [ints_get l q (by rw [HM.out]; exact hq)] at hcr
        obtain ⟨y, hy⟩ : ∃ y, nth l q = y := ⟨_, rfl⟩
        rw [hy] at hcr HBMP
        have hne2 : gr ≠ B := by
          have := (List.pairwise_cons.1 HOM.out.os.far).1 _ List.mem_cons_self
          rcases this with h | h
          · cases h
          · exact fun e => h (by rw [e]; rfl)
        have hne3 : gr ≠ go := by
          have := (List.pairwise_cons.1 HOM.out.os.far).1 _ (List.mem_cons_of_mem _ List.mem_cons_self)
          rcases this with h | h
          · cases h
          · exact fun e => h (by rw [e]; rfl)
        have hne2' : B ≠ gr := fun e => hne2 e.symm
        have hne3' : go ≠ gr := fun e => hne3 e.symm
        have hne1' : go ≠ B := fun e => hne1 e.symm
        have HFN : Hid (Fr w0 ((wr.setCell ⟨gr, q, .none⟩ (.int .i64 x)).setCell ⟨B, 0, .none⟩ (.int .i64 y)) (boxI B y :: outE (some ⟨go, 0, .none⟩) n cap (R.set k (some ⟨gr, 0, .none⟩, c, l.set q x)) :: ((R.set k (some ⟨gr, 0, .none⟩, c, l.set q x)).map re ++ L))) := Lib.hid (by
          have h1 := HOM.out.setInt q x
          have h2 := Fr.rowIn (M := [boxI B x, outE (some ⟨go, 0, .none⟩) n cap R]) k (by rw [HRN.out]; exact hlt) (some ⟨gr, 0, .none⟩, c, l.set q x) (by unfold re rv; rw [show ((some ⟨gr, 0, .none⟩, c, l.set q x) : Rw).2.2.length = m from by rw [List.length_set, HM.out]]; exact h1)
          have h3 := h2.set 0 (.int .i64 y)
          have e : R.map rv = (R.set k (some ⟨gr, 0, .none⟩, c, l.set q x)).map rv := by
            rw [List.map_set]
            have h4 : (R.map rv)[k]? = some (.slice (some ⟨gr, 0, .none⟩) m c) := by
              obtain ⟨_, e', _, _, hh, _⟩ := HF2.out.swap.open (by simp; have := HRN.out; omega)
              cases e'
              rw [← hh k (by simp; have := HRN.out; omega)]; exact hco
            have h5 := List.getElem?_eq_some_iff.1 h4
            obtain ⟨h6, h7⟩ := h5
            have h8 : (R.map rv).set k (.slice (some ⟨gr, 0, .none⟩) m c) = R.map rv := by rw [← h7]; exact List.set_getElem_self h6
            conv => lhs; rw [← h8]
            congr 1
            unfold rv
            rw [show ((some ⟨gr, 0, .none⟩, c, l.set q x) : Rw).2.2.length = m from by rw [List.length_set, HM.out]]
          have e2 : (outE (some ⟨go, 0, .none⟩) n cap R) = outE (some ⟨go, 0, .none⟩) n cap (R.set k (some ⟨gr, 0, .none⟩, c, l.set q x)) := by unfold outE; rw [← e]
          rw [← e2]
          exact h3)
        have HLN : Hid (∀ p ∈ R.set k (some ⟨gr, 0, .none⟩, c, l.set q x), p.2.2.length ≤ 1000) := Lib.hid fun p hp => by
          rcases List.mem_or_eq_of_mem_set hp with h | h
          · exact HRL.out p h
          · subst h; show (l.set q x).length ≤ 1000; rw [List.length_set, HM.out]; exact hlen
        have HPN : Hid (putL (lsR (R.set k (some ⟨gr, 0, .none⟩, c, l.set q x))) (k + 1) y = put (lsR R0) x0) := Lib.hid (by rw [lsR_set, ← HP.out, HBMP.out])
        have j1 : (0 : Int) ≤ (q : Int) := by omega
        have j2 : (q : Int) < (m : Int) := by omega
        clear hy hgrc hgrz
        go_wp2_with fail
        go_region
        go_wp2_with fail
        go_roundw
        case rel => exact ⟨k + 1, _, y, by omega, by go_num, Lib.hid (by rw [List.length_set, HRN.out]), HLN, HPN, Lib.hid HFN.out.drew⟩
        case measure => simp only [intOf]; omega
    · obtain rfl : k = n := by omega
      have hb2 := HF2.out
      obtain ⟨gb, eb, hgb1, hgb2, hgbc, -⟩ := HF2.out.open (by simp)
      cases eb
      have hcb : wr.cell? ⟨B, 0, .none⟩ = some (.int .i64 x) := hgbc 0 (by simp)
      have HF3 : Hid (Fr w0 (wr.alloc (.cells #[.int .i64 x] 3)) (outE ad k cap R :: ⟨3, .slice (some ⟨wr.heap.size, 0, .none⟩) 1 1, ints [x]⟩ :: boxI B x :: (R.map re ++ L))) := Lib.hid ((HF2.out.lit' [x] #[.int .i64 x] rfl 1 rfl (by omega) 3 wr.heap.size rfl).rot)
      have hN2 : (wr.alloc (.cells #[.int .i64 x] 3)).heap.size = wr.heap.size + 1 := by rw [World.size_alloc]
      have HN2 := Lib.hid hN2
      have hp1 : put (lsR R0) x0 = (lsR R ++ [[x]], k) := by
        rw [← HP.out]
        have := putL_end (lsR R) x
        rw [lsR_len, HRN.out] at this
        exact this
      have HP1 := Lib.hid hp1
      clear hgbc hb2 hp1 hN2
      go_wp2_with (with_reducible refine at_slot 52 ?_; go_must (refine wpList_push' rfl _ _ 48 32 (.slice .none 0 0) 24 Try.underlying48 slsInfo rfl (by omega) rfl ad k cap (R.map rv) (.slice (some ⟨wr.heap.size, 0, .none⟩) 1 1) _ (wr.heap.size + 1) HN2.out rfl HF3.out rfl rfl ?_ ?_); rotate_left; intro ad' cp' w3 hf2 hlt2)
      · go_ret2
        refine ⟨ad', k + 1, cp', R ++ [(some ⟨wr.heap.size, 0, .none⟩, 1, [x])], by rw [HP1.out]; rfl, by rw [HP1.out]; simp [lsR], by simp [HRN.out], ?_⟩
        have h1 := hf2.sub (.cons_cons _ (.cons_cons _ (List.sublist_cons_self _ _)))
        have e1 : R.map rv ++ [Value.slice (some ⟨wr.heap.size, 0, .none⟩) 1 1] = (R ++ [((some ⟨wr.heap.size, 0, .none⟩, 1, [x]) : Rw)]).map rv := by rw [List.map_append]; rfl
        rw [e1] at h1
        refine h1.perm (List.Perm.cons _ ?_)
        rw [List.map_append, List.append_assoc]
        exact List.perm_middle.symm
      · omega
end Go.Proofs.Ytooghdnlaonkaaa
