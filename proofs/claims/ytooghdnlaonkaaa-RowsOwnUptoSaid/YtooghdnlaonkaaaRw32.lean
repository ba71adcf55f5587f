/- Several of my texts in one: TabO. -/
import Derived.Test.YtooghdnlaonkaaaRw31
import Derived.Test.YtooghdnlaonkaaaRw12
import Derived.Deep.CutRange
/- Contract of tableau.Of. -/
namespace Go.Proofs.Ytooghdnlaonkaaa
open Go.RowKit

/-! shapes -/
def shp (s : List Nat) (i : Nat) : List Nat := if i < s.length then s.set i (s.getD i 0 + 1) else s ++ [1]
def lens (t : List (List Int)) : List Nat := t.map List.length
theorem lens_len (t : List (List Int)) : (lens t).length = t.length := by simp [lens]
theorem put_shape : ∀ (t : List (List Int)) (x : Int), (put t x).2 ≤ t.length ∧ lens (put t x).1 = shp (lens t) (put t x).2
  | [], x => ⟨Nat.le_refl _, rfl⟩
  | r :: rs, x => by
    rw [put]
    split
    · obtain ⟨h1, h2⟩ := put_shape rs (nth r (pI r x))
      refine ⟨by simp; exact h1, ?_⟩
      show (r.set (pI r x) x).length :: lens (put rs (nth r (pI r x))).1 = _
      rw [h2, List.length_set]
      unfold shp lens
      simp only [List.map_cons, List.length_cons, List.length_map, Nat.add_lt_add_iff_right, List.set_cons_succ, List.getD_cons_succ]
      split <;> rfl
    · refine ⟨Nat.zero_le _, ?_⟩
      unfold shp lens
      simp
def qPre (Q : List (List Int)) (i : Nat) : List (List Int) := if i = Q.length then Q ++ [[]] else Q
def qPut (Q : List (List Int)) (i : Nat) (k : Int) : List (List Int) := (qPre Q i).set i ((qPre Q i).getD i [] ++ [k])
theorem qPre_lt (Q : List (List Int)) (i : Nat) (h : i ≤ Q.length) : i < (qPre Q i).length := by
  unfold qPre; split
  · simp; omega
  · omega
theorem qPut_shape (Q : List (List Int)) (i : Nat) (h : i ≤ Q.length) (k : Int) : lens (qPut Q i k) = shp (lens Q) i := by
  unfold qPut qPre shp
  rw [lens_len]
  split
  · next e =>
    subst e
    rw [if_neg (by omega)]
    unfold lens
    simp
  · next e =>
    rw [if_pos (by omega)]
    unfold lens
    rw [List.map_set, List.length_append]
    congr 1
    simp [show i < Q.length by omega]
def rsk (l : List Int) : Nat → List (List Int) × List (List Int)
  | 0 => ([], [])
  | k + 1 => ((put (rsk l k).1 (nth l k)).1, qPut (rsk l k).2 (put (rsk l k).1 (nth l k)).2 k)
theorem rsk_P (l : List Int) : ∀ k, k ≤ l.length → (rsk l k).1 = insAll (l.take k)
  | 0, _ => by simp [rsk, insAll]
  | k + 1, h => by rw [rsk, take_nth l k (by omega), insAll_snoc, ← rsk_P l k (by omega)]
theorem shp_sum (s : List Nat) (i : Nat) : (shp s i).sum = s.sum + 1 := by
  unfold shp
  split
  · next h =>
    have e : s = s.take i ++ s[i] :: s.drop (i + 1) := by rw [← List.drop_eq_getElem_cons h, List.take_append_drop]
    have e2 : s.set i (s.getD i 0 + 1) = s.take i ++ (s[i] + 1) :: s.drop (i + 1) := by
      rw [List.set_eq_take_append_cons_drop, if_pos h]
      simp [h]
    have e3 : s.sum = (s.take i).sum + (s[i] + (s.drop (i + 1)).sum) := by
      have := congrArg List.sum e
      rw [List.sum_append, List.sum_cons] at this
      exact this
    rw [e2, List.sum_append, List.sum_cons]
    omega
  · simp
theorem shp_pos {s : List Nat} {i : Nat} (h : ∀ x ∈ s, 0 < x) : ∀ x ∈ shp s i, 0 < x := fun x hx => by
  unfold shp at hx
  split at hx
  · rcases List.mem_or_eq_of_mem_set hx with h1 | h1
    · exact h x h1
    · omega
  · rcases List.mem_append.1 hx with h1 | h1
    · exact h x h1
    · have : x = 1 := by simpa using h1
      omega
theorem rsk_shape (l : List Int) : ∀ k, lens (rsk l k).1 = lens (rsk l k).2 ∧ (lens (rsk l k).1).sum = k ∧ ∀ x ∈ lens (rsk l k).1, 0 < x
  | 0 => by simp [rsk, lens]
  | k + 1 => by
    obtain ⟨h1, h2, h3⟩ := rsk_shape l k
    obtain ⟨p1, p2⟩ := put_shape (rsk l k).1 (nth l k)
    have e : (rsk l k).1.length = (rsk l k).2.length := by rw [← lens_len, h1, lens_len]
    rw [rsk]
    refine ⟨?_, ?_, ?_⟩
    · show lens (put _ _).1 = _
      rw [p2, qPut_shape _ _ (by omega), h1]
    · show (lens (put _ _).1).sum = _
      rw [p2, shp_sum, h2]
    · show ∀ x ∈ lens (put _ _).1, 0 < x
      rw [p2]
      exact shp_pos h3
theorem sum_len_bd : ∀ {s : List Nat}, (∀ x ∈ s, 0 < x) → s.length ≤ s.sum ∧ ∀ x ∈ s, x ≤ s.sum
  | [], _ => by simp
  | y :: s, h => by
    obtain ⟨h1, h2⟩ := sum_len_bd (s := s) (fun x hx => h x (List.mem_cons_of_mem _ hx))
    have := h y List.mem_cons_self
    rw [List.sum_cons, List.length_cons]
    refine ⟨by omega, fun x hx => ?_⟩
    rcases List.mem_cons.1 hx with rfl | hx
    · omega
    · have := h2 x hx; omega
theorem rsk_bd (l : List Int) (k : Nat) : (rsk l k).1.length ≤ k ∧ (rsk l k).2.length = (rsk l k).1.length ∧ (∀ r ∈ (rsk l k).1, r.length ≤ k) ∧ ∀ r ∈ (rsk l k).2, r.length ≤ k := by
  obtain ⟨h1, h2, h3⟩ := rsk_shape l k
  obtain ⟨h4, h5⟩ := sum_len_bd h3
  rw [h2] at h4 h5
  rw [lens_len] at h4
  refine ⟨h4, by rw [← lens_len, ← h1, lens_len], fun r hr => h5 _ (List.mem_map_of_mem hr), fun r hr => h5 _ ?_⟩
  rw [h1]; exact List.mem_map_of_mem hr

def eP (b : Nat) (v1 v2 : Value) : Ent := ⟨50, .slice (some ⟨b, 0, .none⟩) 2 2, [v1, v2]⟩
theorem Fr.rp {w0 w : World} {L : List Ent} (h : Fr w0 w L) (v1 v2 : Value) (N : Nat) (hN : w.heap.size = N) : Fr w0 (w.alloc (.cells #[v1, v2] 50)) (eP N v1 v2 :: L) := by
  subst hN; exact h.new 50 #[v1, v2] [v1, v2] rfl 2 rfl (by omega)
theorem Fr.rpM {w0 w : World} {L : List Ent} (h : Fr w0 w L) {b : Nat} {v1 v2 : Value} (he : eP b v1 v2 ∈ L) :
    w.cell? ⟨b, 0, .none⟩ = some v1 ∧ w.cell? ⟨b, 1, .none⟩ = some v2 ∧ b < w.heap.size ∧ w0.heap.size ≤ b ∧ w.frozen? ⟨b, 0, .none⟩ = false ∧ w.frozen? ⟨b, 1, .none⟩ = false := by
  have hO := h.os.own _ he
  have h1 := World.ownsRow.cellAt hO 0 (by show 0 < 2; omega)
  have h2 := World.ownsRow.cellAt hO 1 (by show 1 < 2; omega)
  have h3 := Ent.own.lt hO b rfl
  exact ⟨h1, h2, h3.2, h3.1, World.ownsRow.frozenAt hO 0, World.ownsRow.frozenAt hO 1⟩
abbrev nilS : Value := .slice .none 0 0
abbrev pqE (adp : Option Addr) (np cp : Nat) (RP : List Rw) (adq : Option Addr) (nq cq : Nat) (RQ : List Rw) (M : List Ent) : List Ent := outE adp np cp RP :: (RP.map re ++ (outE adq nq cq RQ :: (RQ.map re ++ M)))
theorem pq_swap {adp adq : Option Addr} {np cp nq cq : Nat} {RP RQ : List Rw} {M : List Ent} : (pqE adp np cp RP adq nq cq RQ M).Perm (pqE adq nq cq RQ adp np cp RP M) := by
  have e : ∀ (a b : Ent) (A B : List Ent), (a :: (A ++ (b :: (B ++ M)))).Perm (b :: (B ++ (a :: (A ++ M)))) := fun a b A B => by
    have h1 : (a :: (A ++ (b :: (B ++ M)))).Perm ((a :: A) ++ (b :: B) ++ M) := by simp
    have h2 : (b :: (B ++ (a :: (A ++ M)))).Perm ((b :: B) ++ (a :: A) ++ M) := by simp
    exact h1.trans ((List.perm_append_comm.append_right M).trans h2.symm)
  exact e _ _ _ _
/-- one of the last ones ahead of all -/
theorem pq_last {adp adq : Option Addr} {np cp nq cq : Nat} {RP RQ : List Rw} {M : List Ent} (e : Ent) : (pqE adp np cp RP adq nq cq RQ (e :: M)).Perm (e :: pqE adp np cp RP adq nq cq RQ M) := by
  have h1 : (pqE adp np cp RP adq nq cq RQ (e :: M)) = (outE adp np cp RP :: (RP.map re ++ (outE adq nq cq RQ :: RQ.map re))) ++ e :: M := by simp
  have h2 : (pqE adp np cp RP adq nq cq RQ M) = (outE adp np cp RP :: (RP.map re ++ (outE adq nq cq RQ :: RQ.map re))) ++ M := by simp
  rw [h1, h2]
  exact List.perm_middle
def OfSaid (P Q : List (List Int)) (w : World) (e : Ending) (w' : World) : Prop :=
  ∃ (adp : Option Addr) (np cp : Nat) (RP : List Rw) (adq : Option Addr) (nq cq : Nat) (RQ : List Rw), e = .returned (.tuple #[.agg #[.slice adp np cp, .slice adq nq cq], .int .i64 0]) ∧
    lsR RP = P ∧ lsR RQ = Q ∧ RP.length = np ∧ RQ.length = nq ∧ Fr w w' (pqE adp np cp RP adq nq cq RQ [])
set_option maxRecDepth 100000 in
set_option maxHeartbeats 8000000 in
theorem tabOf (p : List Int) (n : Nat) (a : Option Addr) (cap : Nat) (w : World) (h : Sa w a (ints p)) (hn : p.length = n) (hp : IsP p) (h10 : n ≤ 10) :
    Calls Try.prog 25 #[.slice a n cap] w (OfSaid (rsk p n).1 (rsk p n).2 w) := by
  have HN := Lib.hid hn; have HS := Lib.hid h; have HP := Lib.hid hp
  clear hn h hp
  have F1 := (Fr.start w).rp nilS nilS w.heap.size rfl
  have HF1 := Lib.hid F1
  clear F1
  go_enter Try.func25, Try.ntmps25
  go_wp2_with fail
  refine (permChk p n _ _ _ (HF1.out.old HS.out) HN.out HP.out (by omega)).mono ?_; rintro e w1 ⟨rfl, hf⟩
  have HF2 := Lib.hid (HF1.out.keep hf.bel)
  clear hf
  go_wp2_with fail
  obtain ⟨A, hA⟩ : ∃ A, w.heap.size = A := ⟨_, rfl⟩
  obtain ⟨B, hB⟩ : ∃ B, w1.heap.size = B := ⟨_, rfl⟩
  have HF3 : Hid (Fr w (w1.alloc (.cells #[nilS, nilS] 50)) (pqE .none 0 0 [] .none 0 0 [] [eP B nilS nilS, eP A nilS nilS])) := Lib.hid (by
    have h := HF2.out
    rw [hA] at h
    exact ((h.rp nilS nilS B hB).nilSlice 32).nilSlice 32)
  rw [hA, hB]
  clear hA hB HF1 HF2
  go_loopw [17] (fun i wr => ∃ (k : Nat) (adp : Option Addr) (np cp : Nat) (RP : List Rw) (adq : Option Addr) (nq cq : Nat) (RQ : List Rw), k ≤ n ∧ i = .int .i64 k ∧ Hid (lsR RP = (rsk p k).1 ∧ lsR RQ = (rsk p k).2 ∧ RP.length = np ∧ RQ.length = nq) ∧
    Hid (Fr w wr (pqE adp np cp RP adq nq cq RQ [eP B (.slice adp np cp) (.slice adq nq cq), eP A nilS nilS]))) (fun i _ => n - (intOf i).toNat)
  case atStart => exact ⟨0, .none, 0, 0, [], .none, 0, 0, [], by omega, rfl, Lib.hid ⟨rfl, rfl, rfl, rfl⟩, HF3⟩
  case round =>
    obtain ⟨k, adp, np, cp, RP, adq, nq, cq, RQ, hk, rfl, HL, HF⟩ := hrel
    clear HF3
    have hbd := rsk_bd p k
    by_cases hlt : k < n
    · obtain ⟨l1, l2, l3, l4⟩ := HL.out
      have hnp : np ≤ 10 := by rw [← l3, ← lsR_len, l1]; omega
      have hnq : nq = np := by rw [← l4, ← lsR_len, l2, hbd.2.1, ← l1, lsR_len, l3]
      have hrows : ∀ q ∈ RP, q.2.2.length ≤ 1000 := fun q hq => by
        have := hbd.2.2.1 q.2.2 (by rw [← l1]; exact List.mem_map_of_mem (f := fun p : Rw => p.2.2) hq)
        omega
      obtain ⟨pb1, pb2⟩ := put_shape (rsk p k).1 (nth p k)
      have hrk : rsk p (k + 1) = ((put (rsk p k).1 (nth p k)).1, qPut (rsk p k).2 (put (rsk p k).1 (nth p k)).2 k) := rfl
      obtain ⟨b, off, rfl, hb, hc⟩ := (HF.out.old HS.out).int k (by rw [HN.out]; exact hlt)
      obtain ⟨x, hx⟩ : ∃ x, nth p k = x := ⟨_, rfl⟩
      rw [hx] at hc pb1 pb2 hrk
      obtain ⟨c0, c1, -, -, z0, z1⟩ := HF.out.rpM (b := B) (v1 := .slice adp np cp) (v2 := .slice adq nq cq) (by simp)
      have HB := Lib.hid hbd; have HRK := Lib.hid hrk
      have hput := fun W (hW : Fr w W (pqE adp np cp RP adq nq cq RQ [eP B (.slice adp np cp) (.slice adq nq cq), eP A nilS nilS])) => tabPut RP x adp np cp _ w W hW l3 (by omega) hrows
      rw [l1] at hput
      have HPUT := Lib.hid (hput wr HF.out)
      have hrow : (put (rsk p k).1 x).2 ≤ np := by rw [← l3, ← lsR_len, l1]; exact pb1
      obtain ⟨row, hrw⟩ : ∃ row, (put (rsk p k).1 x).2 = row := ⟨_, rfl⟩
      rw [hrw] at hrow
      have HRW := Lib.hid hrw
      clear hbd hrk hput hrows l1 l2 l3 l4 pb1 pb2 hx hrw
      subst hnq
      go_wp2_with fail
      refine HPUT.out.mono ?_
      rintro e w2 ⟨adp2, np2, cp2, RP2, rfl, m1, m2, hF2⟩
      rw [HRW.out]
      have HM := Lib.hid m1; have HM2 := Lib.hid m2
      have HF2 : Hid (Fr w w2 (pqE adp2 np2 cp2 RP2 adq nq cq RQ [eP B (.slice adp nq cp) (.slice adq nq cq), eP A nilS nilS])) := Lib.hid hF2
      clear m1 m2 hF2 HPUT c0 c1 z0 z1
      obtain ⟨c0, c1, -, -, z0, z1⟩ := HF2.out.rpM (b := B) (v1 := .slice adp nq cp) (v2 := .slice adq nq cq) (by simp)
      have HF3 : Hid (Fr w (w2.setCell ⟨B, 0, .none⟩ (.slice adp2 np2 cp2)) (pqE adq nq cq RQ adp2 np2 cp2 RP2 [eP B (.slice adp2 np2 cp2) (.slice adq nq cq), eP A nilS nilS])) := Lib.hid (by
        have h1 := (HF2.out.perm (pq_last _)).set 0 (.slice adp2 np2 cp2)
        exact (h1.perm (pq_last _).symm).perm pq_swap)
      go_upto_if 34 with (fail)
      go_cut [39] from 34 to 39 (fun _ wc => ∃ (adq2 : Option Addr) (nq2 cq2 : Nat) (RQ2 : List Rw), row < nq2 ∧ nq2 ≤ 11 ∧ Hid (lsR RQ2 = qPre (rsk p k).2 row) ∧ Hid (RQ2.length = nq2) ∧ Hid (Fr w wc (pqE adq2 nq2 cq2 RQ2 adp2 np2 cp2 RP2 [eP B (.slice adp2 np2 cp2) (.slice adq2 nq2 cq2), eP A nilS nilS])))
      case first =>
        by_cases hrq : row = nq
        · subst hrq
          have hq2 : (lsR RQ).length = row := by rw [lsR_len]; exact HL.out.2.2.2
          have HPRE : Hid (lsR (RQ ++ [((.none, 0, []) : Rw)]) = qPre (rsk p k).2 row) := Lib.hid (by
            have e1 := HL.out.2.1
            unfold qPre
            rw [← e1, if_pos hq2.symm]; simp [lsR])
          obtain ⟨N, hN⟩ : ∃ N, (w2.setCell ⟨B, 0, .none⟩ (.slice adp2 np2 cp2)).heap.size = N := ⟨_, rfl⟩
          have hN2 : w2.heap.size = N := by rw [← hN]; simp
          have HNN := Lib.hid hN
          clear hq2 hN
          go_wp2_with (with_reducible refine at_slot 38 ?_; go_must (refine wpList_push' rfl _ _ 48 32 (.slice .none 0 0) 24 Try.underlying48 slsInfo rfl (by omega) rfl adq row cq (RQ.map rv) nilS _ N HNN.out rfl HF3.out rfl rfl ?_ ?_); rotate_left; intro adq2 cq2 w3 hf3 hlt3; obtain ⟨c0, c1, -, -, z0, z1⟩ := hf3.rpM (b := B) (v1 := .slice adp2 np2 cp2) (v2 := .slice adq row cq) (by simp))
          · have HF4 : Hid (Fr w (w3.setCell ⟨B, 1, .none⟩ (.slice adq2 (row + 1) cq2)) (pqE adq2 (row + 1) cq2 (RQ ++ [((.none, 0, []) : Rw)]) adp2 np2 cp2 RP2 [eP B (.slice adp2 np2 cp2) (.slice adq2 (row + 1) cq2), eP A nilS nilS])) := Lib.hid (by
              have e1 : RQ.map rv ++ [nilS] = (RQ ++ [((.none, 0, []) : Rw)]).map rv := by rw [List.map_append]; rfl
              rw [e1] at hf3
              have h1 := (hf3.nilSlice 3).swap
              have h2 : Fr w w3 (pqE adq2 (row + 1) cq2 (RQ ++ [((.none, 0, []) : Rw)]) adp2 np2 cp2 RP2 [eP B (.slice adp2 np2 cp2) (.slice adq row cq), eP A nilS nilS]) := by
                refine h1.perm (List.Perm.cons _ ?_)
                rw [List.map_append, List.append_assoc]
                exact List.perm_middle.symm
              exact ((h2.perm (pq_last _)).set 1 (.slice adq2 (row + 1) cq2)).perm (pq_last _).symm)
            go_meet
            exact ⟨adq2, row + 1, cq2, _, by omega, by omega, HPRE, Lib.hid (by rw [List.length_append, HL.out.2.2.2]; rfl), HF4⟩
          · omega
        · have hlt2 : row < nq := by omega
          have HPRE : Hid (lsR RQ = qPre (rsk p k).2 row) := Lib.hid (by
            have e1 := HL.out.2.1
            unfold qPre
            rw [← e1, if_neg (by rw [lsR_len, HL.out.2.2.2]; exact hrq)])
          have hne : ((row : Int) == (nq : Int)) = false := by rw [beq_eq_false_iff_ne]; omega
          go_wp2_with fail
          go_meet
          exact ⟨adq, nq, cq, RQ, hlt2, by omega, HPRE, Lib.hid HL.out.2.2.2, HF3⟩
      case rest =>
      obtain ⟨adq2, nq2, cq2, RQ2, hr2, hq11, HPRE, HLQ, HF4⟩ := hcut
      clear HF HF2 HF3 c0 c1 z0 z1
      obtain ⟨c0, c1, hB1, -, -, -⟩ := HF4.out.rpM (b := B) (v1 := .slice adp2 np2 cp2) (v2 := .slice adq2 nq2 cq2) (by simp)
      have hkR : row < RQ2.length := by rw [HLQ.out]; exact hr2
      obtain ⟨go, e, hgo1, hgo2, hgoc, -⟩ := HF4.out.open (by simp; omega)
      subst e
      have hco := hgoc row (by simp; omega)
      rw [List.getElem?_map, List.getElem?_eq_getElem hkR] at hco
      have ho := Fr.rowOut (M := [outE (some ⟨go, 0, .none⟩) nq2 cq2 RQ2]) HF4.out row hkR
      have hlen : RQ2[row].2.2.length ≤ 1000 := by
        have h1 : RQ2[row].2.2 ∈ qPre (rsk p k).2 row := by rw [← HPRE.out]; exact List.mem_map_of_mem (f := fun p : Rw => p.2.2) (List.getElem_mem hkR)
        have h2 : RQ2[row].2.2 ∈ (rsk p k).2 ∨ RQ2[row].2.2 = [] := by
          unfold qPre at h1
          split at h1
          · rcases List.mem_append.1 h1 with h | h
            · exact .inl h
            · exact .inr (by simpa using h)
          · exact .inl h1
        rcases h2 with h | h
        · have := HB.out.2.2.2 _ h; omega
        · rw [h]; simp
      have hnext : (rsk p (k + 1)).2 = (qPre (rsk p k).2 row).set row (RQ2[row].2.2 ++ [(k : Int)]) := by
        rw [HRK.out, HRW.out]
        show qPut _ _ _ = _
        unfold qPut
        rw [← HPRE.out]
        congr 2
        rw [List.getD_eq_getElem?_getD]
        simp [lsR, hkR]
      have HNX := Lib.hid hnext
      obtain ⟨⟨a, c, l⟩, hp⟩ : ∃ p : Rw, RQ2[row] = p := ⟨_, rfl⟩
      rw [hp] at hco ho hlen HNX
      simp only [Option.map_some, rv] at hco
      obtain ⟨m, hm⟩ : ∃ m, l.length = m := ⟨_, rfl⟩
      have HMM := Lib.hid hm
      have hlen : m ≤ 1000 := by rw [← hm]; exact hlen
      rw [hm] at hco
      have HF5 : Hid (Fr w (wc.alloc (.cells #[.int .i64 (k : Int)] 3)) (⟨3, .slice a m c, ints l⟩ :: ⟨3, .slice (some ⟨wc.heap.size, 0, .none⟩) 1 1, [.int .i64 (k : Int)]⟩ :: ([outE (some ⟨go, 0, .none⟩) nq2 cq2 RQ2] ++ ((RQ2.eraseIdx row).map re ++ (outE adp2 np2 cp2 RP2 :: (RP2.map re ++ [eP B (.slice adp2 np2 cp2) (.slice (some ⟨go, 0, .none⟩) nq2 cq2), eP A nilS nilS])))))) := Lib.hid (by
        have := (ho.lit' [(k : Int)] #[.int .i64 (k : Int)] rfl 1 rfl (by omega) 3 wc.heap.size rfl).swap
        unfold re rv at this
        rw [show ((a, c, l) : Rw).2.2.length = m from hm] at this
        exact this)
      have HKS : Hid (∀ w', Below wc.heap.size wc w' → w'.cell? ⟨B, 1, .none⟩ = some (.slice (some ⟨go, 0, .none⟩) nq2 cq2) ∧ w'.cell? ⟨go, row, .none⟩ = some (.slice a m c)) := Lib.hid fun w' hB => ⟨(hB.cell hB1).trans c1, (hB.cell hgo2).trans hco⟩
      have HSS := Lib.hid (HKS.out wc (Below.refl _ _))
      have i1 : (0 : Int) ≤ (row : Int) := by omega
      have i2 : (row : Int) < (nq2 : Int) := by omega
      have HPQ : Hid (RQ2[row]'hkR = (a, c, l)) := Lib.hid hp
      clear ho hp hm hnext hgoc hco c0 c1 hB1 hgo1 hgo2
      go_wp2_with fail
      refine wp_region_U [12] (fun w' : World => w'.cell? ⟨B, 1, .none⟩ = some (.slice (some ⟨go, 0, .none⟩) nq2 cq2) ∧ w'.cell? ⟨go, row, .none⟩ = some (.slice a m c)) (by kernel_rfl) ?_
      have hSd : (fun w' : World => w'.cell? ⟨B, 1, .none⟩ = some (.slice (some ⟨go, 0, .none⟩) nq2 cq2) ∧ w'.cell? ⟨go, row, .none⟩ = some (.slice a m c)) wc.drew := HSS.out
      refine wpAnyU_takeY (i := 0) (v := ?_) rfl (by kernel_rfl) (by kernel_rfl) (by kernel_rfl) (by kernel_rfl) (fun _ _ _ h => h) (Or.inl ⟨by rfl, ?_⟩) (by assumption) ?_
      rotate_left
      · intro w _; go_simp; try with_reducible rfl
      try simp only [Act.put]
      try simp only [List.setIfInBounds_toArray]
      try simp only [List.set_cons_succ]
      try simp only [List.set_cons_zero]
      refine wpAnyU_take (i := 1) (v := ?_) rfl (by kernel_rfl) (by kernel_rfl) (by kernel_rfl) (by kernel_rfl) (by kernel_rfl) (by kernel_rfl) (fun _ _ _ h => h) (Or.inl ⟨by rfl, ?_⟩) (by assumption) ?_
      rotate_left
      · intro w hSw; obtain ⟨s1, s2⟩ := hSw; go_simp; try with_reducible rfl
      try simp only [Act.put]
      try simp only [List.setIfInBounds_toArray]
      try simp only [List.set_cons_succ]
      try simp only [List.set_cons_zero]
      refine wpAnyU_takeY (i := 2) (v := ?_) rfl (by kernel_rfl) (by kernel_rfl) (by kernel_rfl) (by kernel_rfl) (fun _ _ _ h => h) (Or.inl ⟨by rfl, ?_⟩) (by assumption) ?_
      rotate_left
      · intro w _; go_simp; try with_reducible rfl
      try simp only [Act.put]
      try simp only [List.setIfInBounds_toArray]
      try simp only [List.set_cons_succ]
      try simp only [List.set_cons_zero]
      refine wpAnyU_takeY (i := 3) (v := ?_) rfl (by kernel_rfl) (by kernel_rfl) (by kernel_rfl) (by kernel_rfl) (fun _ _ _ h => h) (Or.inl ⟨by rfl, ?_⟩) (by assumption) ?_
      rotate_left
      · intro w _; go_simp; try with_reducible rfl
      try simp only [Act.put]
      try simp only [List.setIfInBounds_toArray]
      try simp only [List.set_cons_succ]
      try simp only [List.set_cons_zero]
      refine wpAnyU_take (i := 4) (v := ?_) rfl (by kernel_rfl) (by kernel_rfl) (by kernel_rfl) (by kernel_rfl) (by kernel_rfl) (by kernel_rfl) (fun _ _ _ h => h) (Or.inl ⟨by rfl, ?_⟩) (by assumption) ?_
      rotate_left
      · intro w hSw; obtain ⟨s1, s2⟩ := hSw; go_simp; try with_reducible rfl
      try simp only [Act.put]
      try simp only [List.setIfInBounds_toArray]
      try simp only [List.set_cons_succ]
      try simp only [List.set_cons_zero]
      refine wpAnyU_takeY (i := 5) (v := ?_) rfl (by kernel_rfl) (by kernel_rfl) (by kernel_rfl) (by kernel_rfl) (fun _ _ _ h => h) (Or.inl ⟨by rfl, ?_⟩) (by assumption) ?_
      rotate_left
      · intro w _; go_simp; try with_reducible rfl
      try simp only [Act.put]
      try simp only [List.setIfInBounds_toArray]
      try simp only [List.set_cons_succ]
      try simp only [List.set_cons_zero]
      refine wpAnyU_takeY (i := 6) (v := ?_) rfl (by kernel_rfl) (by kernel_rfl) (by kernel_rfl) (by kernel_rfl) (fun _ _ _ h => h) (Or.inl ⟨by rfl, ?_⟩) (by assumption) ?_
      rotate_left
      · intro w _; go_simp; try with_reducible rfl
      try simp only [Act.put]
      try simp only [List.setIfInBounds_toArray]
      try simp only [List.set_cons_succ]
      try simp only [List.set_cons_zero]
      refine wpAnyU_take (i := 7) (v := ?_) rfl (by kernel_rfl) (by kernel_rfl) (by kernel_rfl) (by kernel_rfl) (by kernel_rfl) (by kernel_rfl) (fun _ _ _ h => h) (Or.inl ⟨by rfl, ?_⟩) (by assumption) ?_
      rotate_left
      · intro w hSw; obtain ⟨s1, s2⟩ := hSw; go_simp; try with_reducible rfl
      try simp only [Act.put]
      try simp only [List.setIfInBounds_toArray]
      try simp only [List.set_cons_succ]
      try simp only [List.set_cons_zero]
      refine wpAnyU_takeY (i := 8) (v := ?_) rfl (by kernel_rfl) (by kernel_rfl) (by kernel_rfl) (by kernel_rfl) (fun _ _ _ h => h) (Or.inl ⟨by rfl, ?_⟩) (by assumption) ?_
      rotate_left
      · intro w _; go_simp; try with_reducible rfl
      try simp only [Act.put]
      try simp only [List.setIfInBounds_toArray]
      try simp only [List.set_cons_succ]
      try simp only [List.set_cons_zero]
      refine wpAnyU_ready (rs := [9]) (by kernel_rfl) (by simp) ?_
      refine AllReadyU.cons rfl (fun K hK => ?_) AllReadyU.nil
      go_simp
      refine hK.out _ _ (fun _ => HKS.out _ (kin_alloc (Below.refl _ _) _).drew) ?_
      clear hK K
      try simp only [Act.put]
      try simp only [List.setIfInBounds_toArray]
      try simp only [List.set_cons_succ]
      try simp only [List.set_cons_zero]
      refine wpAnyU_ready (rs := [10]) (by kernel_rfl) (by simp) ?_
      refine AllReadyU.cons rfl (fun K hK => ?_) AllReadyU.nil
      refine step_push rfl (.tmp 47) (.tmp 49) 32 3 (.int .i64 0) 8 Try.underlying32 intInfo rfl (by omega) (by rfl) a m c wc.heap.size (ints l) (.int .i64 (k : Int)) _ (by rfl) HF5.out.drew (by rfl) rfl (by omega) ?_
      intro ad' cp' w5 hf hsz
      have hf2 := hf.sub (.cons_cons _ (List.sublist_cons_self _ _))
      rw [ints_snoc] at hf2
      have hf3 := Fr.rowIn (M := [outE (some ⟨go, 0, .none⟩) nq2 cq2 RQ2]) row (by rw [HLQ.out]; exact hr2) (ad', cp', l ++ [(k : Int)]) (by unfold re rv; rw [show ((ad', cp', l ++ [(k : Int)]) : Rw).2.2.length = m + 1 from by rw [List.length_append, HMM.out]; rfl]; exact hf2)
      obtain ⟨g, e, -, -, hgc, hgz⟩ := Fr.open (T := 32) (ad := some ⟨go, 0, .none⟩) (n := nq2) (cap := cq2) (xs := RQ2.map rv) hf3 (by simp; have := HLQ.out; omega)
      cases e
      have hco := hgc row (by simp; have := HLQ.out; omega)
      have hz := hgz row
      have hf4 := Fr.set (T := 32) (n := nq2) (cap := cq2) (xs := RQ2.map rv) hf3 row (.slice ad' (m + 1) cp')
      have hset : (RQ2.map rv).set row (.slice ad' (m + 1) cp') = (RQ2.set row (ad', cp', l ++ [(k : Int)])).map rv := by rw [List.map_set]; unfold rv; simp [HMM.out]
      rw [hset] at hf4
      have HF6 : Hid (Fr w (w5.setCell ⟨go, row, .none⟩ (.slice ad' (m + 1) cp')) (pqE adp2 np2 cp2 RP2 (some ⟨go, 0, .none⟩) nq2 cq2 (RQ2.set row (ad', cp', l ++ [(k : Int)])) [eP B (.slice adp2 np2 cp2) (.slice (some ⟨go, 0, .none⟩) nq2 cq2), eP A nilS nilS])) := Lib.hid (hf4.perm pq_swap)
      have hS5 : w5.cell? ⟨B, 1, .none⟩ = some (.slice (some ⟨go, 0, .none⟩) nq2 cq2) ∧ w5.cell? ⟨go, row, .none⟩ = some (.slice a m c) := by
        refine ⟨(Fr.rpM (b := B) (v1 := .slice adp2 np2 cp2) (v2 := .slice (some ⟨go, 0, .none⟩) nq2 cq2) hf (by simp)).2.1, ?_⟩
        have hkR : row < RQ2.length := by rw [HLQ.out]; exact hr2
        rw [hco, List.getElem?_map, List.getElem?_eq_getElem hkR, HPQ.out]
        rw [← HMM.out]; rfl
      have HS5 := Lib.hid hS5
      clear hf hf2 hf3 hf4 hgc hgz hsz hset hS5
      refine hK.out _ _ (fun _ => HS5.out) ?_
      clear hK K
      try simp only [Act.put]
      try simp only [List.setIfInBounds_toArray]
      try simp only [List.set_cons_succ]
      try simp only [List.set_cons_zero]
      refine wpAnyU_ready (rs := [11]) (by kernel_rfl) (by simp) ?_
      refine AllReadyU.cons rfl (fun K hK => ?_) AllReadyU.nil
      go_simp
      refine hK.out _ _ (fun _ => HS5.out) ?_
      clear hK K
      try simp only [Act.put]
      try simp only [List.setIfInBounds_toArray]
      try simp only [List.set_cons_succ]
      try simp only [List.set_cons_zero]
      refine wpAnyU_ready (rs := [12]) (by kernel_rfl) (by simp) ?_
      refine AllReadyU.cons rfl (fun K hK => ?_) AllReadyU.nil
      go_simp
      refine hK.out _ _ (fun h => absurd h (by decide +kernel)) ?_
      clear hK K
      try simp only [Act.put]
      try simp only [List.setIfInBounds_toArray]
      try simp only [List.set_cons_succ]
      try simp only [List.set_cons_zero]
      refine wpAnyU_done (by kernel_rfl) ?_ _
      go_wp2_with fail
      go_roundw
      case rel => exact ⟨k + 1, adp2, np2, cp2, RP2, some ⟨go, 0, .none⟩, nq2, cq2, RQ2.set row (ad', cp', l ++ [(k : Int)]), by omega, by go_num, Lib.hid ⟨by rw [HM.out, HRK.out], by rw [lsR_set, HPRE.out, HNX.out], HM2.out, by rw [List.length_set, HLQ.out]⟩, HF6⟩
      case measure => simp only [intOf]; omega
    · obtain rfl : k = n := by omega
      obtain ⟨l1, l2, l3, l4⟩ := HL.out
      obtain ⟨c0, c1, hB1, -, z0, z1⟩ := HF.out.rpM (b := B) (v1 := .slice adp np cp) (v2 := .slice adq nq cq) (by simp)
      obtain ⟨d0, d1, hA1, -, y0, y1⟩ := HF.out.rpM (b := A) (v1 := nilS) (v2 := nilS) (by simp)
      have HE : Hid (Fr w ((wr.setCell ⟨A, 0, .none⟩ (.slice adp np cp)).setCell ⟨A, 1, .none⟩ (.slice adq nq cq)) (pqE adp np cp RP adq nq cq RQ [])) := Lib.hid (by
        have h1 := (HF.out.perm (pq_last _)).tail
        have h2 := (h1.perm (pq_last _))
        exact (((h2.set 0 (.slice adp np cp)).set 1 (.slice adq nq cq))).tail)
      have HL1 := Lib.hid l1; have HL2 := Lib.hid l2; have HL3 := Lib.hid l3; have HL4 := Lib.hid l4
      clear l1 l2 l3 l4 hbd HL
      go_wp2_with fail
      exact bodyPost_ret (v := .tuple #[.agg #[.slice adp np cp, .slice adq nq cq], .int .i64 0]) (by simp [results, Try.results25, go_sem, d0, d1]) rfl
        ⟨adp, np, cp, RP, adq, nq, cq, RQ, rfl, HL1.out, HL2.out, HL3.out, HL4.out, HE.out⟩
end Go.Proofs.Ytooghdnlaonkaaa
