/- Several of my texts in one: TabK3. -/
import Derived.Test.YtooghdnlaonkaaaRw39
import Derived.Test.YtooghdnlaonkaaaRw15
import Derived.Test.YtooghdnlaonkaaaRw09
import Derived.Deep.LoopGhost
/- Contract of tableau.Back where the two tableaux are right. -/
namespace Go.Proofs.Ytooghdnlaonkaaa
open Go.RowKit

/-! upwards -/
def upS : List (List Int) → Nat → Int → List (List Int) × Int
  | L, 0, y => (L, y)
  | L, r + 1, y => upS (L.set r ((L.getD r []).set (pI (L.getD r []) y - 1) y)) r (nth (L.getD r []) (pI (L.getD r []) y - 1))
def SafeU : List (List Int) → Nat → Int → Prop
  | _, 0, _ => True
  | L, r + 1, y => 0 < pI (L.getD r []) y ∧ SafeU (L.set r ((L.getD r []).set (pI (L.getD r []) y - 1) y)) r (nth (L.getD r []) (pI (L.getD r []) y - 1))
theorem upS_cons : ∀ (k : Nat) (L : List (List Int)) (r : List Int) (y : Int), upS (r :: L) (k + 1) y = (r.set (pI r (upS L k y).2 - 1) (upS L k y).2 :: (upS L k y).1, nth r (pI r (upS L k y).2 - 1))
  | 0, L, r, y => rfl
  | k + 1, L, r, y => by
    rw [upS]
    have e : (r :: L).getD (k + 1) [] = L.getD k [] := by simp
    rw [e, List.set_cons_succ, upS_cons k]
    rfl
theorem safe_cons : ∀ (k : Nat) (L : List (List Int)) (r : List Int) (y : Int), SafeU (r :: L) (k + 1) y ↔ SafeU L k y ∧ 0 < pI r (upS L k y).2
  | 0, L, r, y => by simp [SafeU, upS]
  | k + 1, L, r, y => by
    rw [SafeU]
    have e : (r :: L).getD (k + 1) [] = L.getD k [] := by simp
    rw [e, List.set_cons_succ, safe_cons k, SafeU, upS]
    exact ⟨fun ⟨a, b, c⟩ => ⟨⟨a, b⟩, c⟩, fun ⟨⟨a, b⟩, c⟩ => ⟨a, b, c⟩⟩
theorem unput_upS : ∀ (P : List (List Int)) (i : Nat) (t : List Int) (z : Int), P[i]? = some (t ++ [z]) → unput P i = upS (dr P i) i z
  | [], i, t, z, h => by simp at h
  | r :: rs, 0, t, z, h => by
    have hr : r = t ++ [z] := by simpa using h
    subst hr
    rw [unput, snoc_last]; rfl
  | r :: rs, i + 1, t, z, h => by
    rw [List.getElem?_cons_succ] at h
    rw [unput, dr, upS_cons, unput_upS rs i t z h]
theorem p_safe : ∀ (P : List (List Int)) (i : Nat) (t : List Int) (z : Int), StdE P → P.flatten.Nodup → P[i]? = some (t ++ [z]) → (∀ s, P[i + 1]? = some s → s.length ≤ t.length) → SafeU (dr P i) i z
  | [], i, t, z, _, _, h, _ => by simp at h
  | r :: rs, 0, t, z, _, _, _, _ => trivial
  | r :: rs, i + 1, t, z, hS, hnd, h, hc => by
    obtain ⟨h1, h2, h3⟩ := hS
    rw [List.getElem?_cons_succ] at h
    rw [List.flatten_cons, List.nodup_append] at hnd
    have hc' : ∀ s, rs[i + 1]? = some s → s.length ≤ t.length := fun s hs => hc s (by rw [List.getElem?_cons_succ]; exact hs)
    have ih := p_safe rs i t z h2 hnd.2.1 h hc'
    obtain ⟨_, _, _, _, s, s', R, j, k1, k2, k3⟩ := p_step rs i t z h2 hnd.2.1 h hc'
    rw [dr, safe_cons]
    refine ⟨ih, ?_⟩
    rw [← unput_upS rs i t z h]
    have hd := h3 s k1
    have hrj := hd.2 j k3.lt
    rw [k3.at_] at hrj
    have hjr : j < r.length := Nat.lt_of_lt_of_le k3.lt hd.1
    refine pI_pos (by omega) ?_
    rcases Nat.eq_zero_or_pos j with e | e
    · subst e; omega
    · have := pw_nth_lt h1 e hjr; omega
def pre : Nat → Int
  | 0 => -1
  | r + 1 => r
theorem pre_eq (r : Nat) : pre r = (r : Int) - 1 := by cases r with
  | zero => rfl
  | succ r => show (r : Int) = _; omega
theorem dr_set : ∀ (P : List (List Int)) (i : Nat), i < P.length → dr P i = P.set i (P.getD i []).dropLast
  | [], i, h => by simp at h
  | r :: rs, 0, _ => by simp [dr]
  | r :: rs, i + 1, h => by rw [dr, List.set_cons_succ, dr_set rs i (by simpa using h)]; simp
theorem getD_set (L : List (List Int)) (i j : Nat) (x : List Int) (h : i < L.length) : (L.set i x).getD j [] = if j = i then x else L.getD j [] := by
  rw [List.getD_eq_getElem?_getD, List.getD_eq_getElem?_getD, List.getElem?_set]
  by_cases e : i = j
  · subst e; simp [h]
  · rw [if_neg e, if_neg (fun x => e x.symm)]
theorem stdE_row : ∀ (P : List (List Int)) (i : Nat), StdE P → (P.getD i []).Pairwise (· < ·)
  | [], i, _ => by simp
  | r :: rs, 0, h => by simpa using h.1
  | r :: rs, i + 1, h => by have := stdE_row rs i h.2.1; simpa using this
/-- x[:k] of ints -/
theorem slice_to (g n cap k : Nat) (hk : k ≤ n) (hc : n ≤ cap) (W : World) :
    Sem.run Try.prog (Instr.slice 32 (.slice (some ⟨g, 0, .none⟩) n cap) none (some (.int .i64 (k : Int))) none) W = .ok (.slice (some ⟨g, 0, .none⟩) k cap) W := by
  have ht : Try.prog.underlying 32 = some (.slice (Try.prog.elem 32)) := by rw [intElem]; exact Try.underlying32
  have hsz : ∀ W, Sem.run Try.prog (sizeOf (Try.prog.elem 32)) W = .ok 1 W := fun W => by
    rw [intElem]
    obtain ⟨i0, hi, _, hz1, _⟩ := info_parts intInfo
    simp [sizeOf, go_sem]; rfl
  rw [run_slice_h W 32 (some ⟨g, 0, .none⟩) n cap ht .i64 k (by omega) (by omega), hsz]
  simp [Result.andThen, sliced, Addr.add]
/-- a row is shortened by one -/
theorem Fr.cutRow {w0 w : World} {bx : Ent} {n cap go : Nat} {R : List Rw} {L' : List Ent} (h : Fr w0 w (bx :: outE (some ⟨go, 0, .none⟩) n cap R :: (R.map re ++ L'))) (i : Nat) (hi : i < R.length) (a : Option Addr) (c : Nat) (t : List Int) (z : Int) (hR : R[i] = (a, c, t ++ [z])) :
    Fr w0 (w.setCell ⟨go, i, .none⟩ (.slice a t.length c)) (bx :: outE (some ⟨go, 0, .none⟩) n cap (R.set i (a, c, t)) :: ((R.set i (a, c, t)).map re ++ L')) := by
  have h1 := Fr.rowOut (M := [bx, outE (some ⟨go, 0, .none⟩) n cap R]) h i hi
  rw [hR] at h1
  have h2 := Fr.cut (T := 3) (ad := a) (n := (t ++ [z]).length) (cap := c) (xs := ints (t ++ [z])) h1 t.length (by rw [ints_len]; simp)
  rw [ints_take, List.take_left] at h2
  have h3 := Fr.rowIn (M := [bx, outE (some ⟨go, 0, .none⟩) n cap R]) i hi (a, c, t) h2
  have h4 := (Fr.set (T := 32) (n := n) (cap := cap) (xs := R.map rv) (Fr.swap h3) i (.slice a t.length c))
  have e : (R.map rv).set i (.slice a t.length c) = (R.set i (a, c, t)).map rv := by rw [List.map_set]; rfl
  rw [e] at h4
  exact h4.swap
/-- a number of a row is changed -/
theorem Fr.putRow {w0 w : World} {bx : Ent} {ad : Option Addr} {n cap g : Nat} {R : List Rw} {L' : List Ent} (h : Fr w0 w (bx :: outE ad n cap R :: (R.map re ++ L'))) (i : Nat) (hi : i < R.length) (c : Nat) (l : List Int) (hR : R[i] = (some ⟨g, 0, .none⟩, c, l)) (j : Nat) (y : Int) :
    Fr w0 (w.setCell ⟨g, j, .none⟩ (.int .i64 y)) (bx :: outE ad n cap (R.set i (some ⟨g, 0, .none⟩, c, l.set j y)) :: ((R.set i (some ⟨g, 0, .none⟩, c, l.set j y)).map re ++ L')) := by
  have h1 := Fr.rowOut (M := [bx, outE ad n cap R]) h i hi
  rw [hR] at h1
  have h2 := Fr.setInt (T := 3) (n := l.length) (cap := c) (l := l) h1 j y
  have h3 := Fr.rowIn (M := [bx, outE ad n cap R]) i hi (some ⟨g, 0, .none⟩, c, l.set j y) (by unfold re rv; simp only [List.length_set]; exact h2)
  have e : R.map rv = (R.set i (some ⟨g, 0, .none⟩, c, l.set j y)).map rv := by
    rw [List.map_set]
    have e1 : rv ((some ⟨g, 0, .none⟩, c, l.set j y) : Rw) = (R.map rv)[i]'(by simpa using hi) := by
      rw [List.getElem_map, hR]; unfold rv; simp
    rw [e1, List.set_getElem_self]
  have e2 : (outE ad n cap R) = outE ad n cap (R.set i (some ⟨g, 0, .none⟩, c, l.set j y)) := by unfold outE; rw [← e]
  rw [e2] at h3
  exact h3
theorem Fr.rmPQ {w0 w : World} {L : List Ent} {adp adq : Option Addr} {np cp nq cq : Nat} {RP RQ : List Rw} (h : Fr w0 w L) (hs : ∀ e, e ∈ pqE adp np cp RP adq nq cq RQ [] → e ∈ L) : Rm w adp RP ∧ Rm w adq RQ := by
  refine ⟨h.rm (n := np) (cap := cp) (hs _ (by simp)) (fun p hp => hs _ ?_), h.rm (n := nq) (cap := cq) (hs _ (by simp)) (fun p hp => hs _ ?_)⟩
  · exact List.mem_cons_of_mem _ (List.mem_append_left _ (List.mem_map_of_mem hp))
  · exact List.mem_cons_of_mem _ (List.mem_append_right _ (List.mem_cons_of_mem _ (List.mem_append_left _ (List.mem_map_of_mem hp))))
set_option maxRecDepth 100000 in
set_option maxHeartbeats 16000000 in
theorem tabBack (RP RQ : List Rw) (P Q : List (List Int)) (m n : Nat) (ap aq : Option Addr) (cp cq : Nat) (w : World) (hp : Rm w ap RP) (hq : Rm w aq RQ) (hlp : lsR RP = P) (hlq : lsR RQ = Q) (hmp : P.length = m) (hmq : Q.length = m)
    (okp : TabOk P) (okq : TabOk Q) (G : Gd P Q n) (hn : totN P = n) :
    Calls Try.prog 27 #[.agg #[.slice ap m cp, .slice aq m cq]] w (OneSl (back n P Q) n 0 w) := by
  have h10 : m ≤ 10 := by have := okp.few; omega
  have hn10 : n ≤ 10 := by have := okp.tot; omega
  have hlenE : ∀ i, lenN P i = lenN Q i := fun i => by
    have h := congrArg (fun L => L[i]?) G.len
    simp only [List.getElem?_map] at h
    unfold lenN
    rw [List.getD_eq_getElem?_getD, List.getD_eq_getElem?_getD]
    cases hp : P[i]? with
    | none =>
      rw [hp] at h
      cases hq : Q[i]? with
      | none => rfl
      | some q => rw [hq] at h; simp at h
    | some p =>
      rw [hp] at h
      cases hq : Q[i]? with
      | none => rw [hq] at h; simp at h
      | some q => rw [hq] at h; simp at h; simpa using h
  have hlb : ∀ i, lenN P i ≤ 10 := fun i => by
    by_cases hi : i < P.length
    · have := lenN_tot P i hi; omega
    · unfold lenN
      rw [List.getD_eq_getElem?_getD, List.getElem?_eq_none (by omega)]; simp
  have htk : ∀ k, k ≤ m → totN (P.take k) ≤ n := fun k hk => by
    rw [← hn]
    have e : totN P = totN (P.take k) + totN (P.drop k) := by
      unfold totN
      rw [← List.sum_append, ← List.map_append, List.take_append_drop]
    omega
  have HP := Lib.hid hp; have HQ := Lib.hid hq; have HLP := Lib.hid hlp; have HLQ := Lib.hid hlq; have HMP := Lib.hid hmp; have HMQ := Lib.hid hmq
  have OKP := Lib.hid okp; have OKQ := Lib.hid okq; have HG := Lib.hid G; have HTN := Lib.hid hn; have HLE := Lib.hid hlenE; have HLB := Lib.hid hlb; have HTK := Lib.hid htk
  have HLBQ : Hid (∀ i, lenN Q i ≤ 10) := Lib.hid fun i => by rw [← hlenE]; exact hlb i
  clear hp hq hlp hlq hmp hmq okp okq G hn hlenE hlb htk
  go_enter Try.func27, Try.ntmps27
  go_wp2_with fail
  have HF0 := Lib.hid ((Fr.start w).rp (.slice ap m cp) (.slice aq m cq) w.heap.size rfl)
  refine (tabChk RP P m ap cp _ (HP.out.keep HF0.out.bel) HLP.out HMP.out (by omega) (fun i _ => by have := HLB.out i; omega)).mono ?_
  rintro e w1 ⟨er, rfl, her, hf⟩
  obtain rfl : er = 0 := by
    rcases her with ⟨h, _⟩ | ⟨_, h⟩
    · exact h
    · exact absurd OKP.out h
  obtain ⟨N, hN⟩ : ∃ N, w.heap.size = N := ⟨_, rfl⟩
  have HF1 : Hid (Fr w w1 [eP N (.slice ap m cp) (.slice aq m cq)]) := Lib.hid (by rw [← hN]; exact HF0.out.keep hf.bel)
  rw [hN]
  clear her hf HF0 hN
  obtain ⟨c0, c1, -, -, -, -⟩ := HF1.out.rpM (b := N) (v1 := .slice ap m cp) (v2 := .slice aq m cq) (by simp)
  go_wp2_with fail
  refine (tabChk RQ Q m aq cq _ (HQ.out.keep HF1.out.bel) HLQ.out HMQ.out (by omega) (fun i _ => by have := HLBQ.out i; omega)).mono ?_
  rintro e w2 ⟨er, rfl, her, hf⟩
  obtain rfl : er = 0 := by
    rcases her with ⟨h, _⟩ | ⟨_, h⟩
    · exact h
    · exact absurd OKQ.out h
  have HF2 := Lib.hid (HF1.out.keep hf.bel)
  clear her hf HF1 c0 c1
  obtain ⟨c0, c1, -, -, -, -⟩ := HF2.out.rpM (b := N) (v1 := .slice ap m cp) (v2 := .slice aq m cq) (by simp)
  have z0 : ((m : Int) != (m : Int)) = false := by simp
  go_wp2_with fail
  clear z0
  go_loop [6, 39] (fun s i => ∃ k : Nat, k ≤ m ∧ i = .int .i64 k ∧ s = .int .i64 (totN (P.take k) : Nat)) (fun _ i => m - (intOf i).toNat)
  case atStart => exact ⟨0, by omega, rfl, rfl⟩
  case round =>
    obtain ⟨k, hk, rfl, rfl⟩ := hrel
    have htk := HTK.out k hk
    by_cases hlt : k < m
    · obtain ⟨b1, o1, a1, q1, rfl, -, x1, -⟩ := (HP.out.keep HF2.out.bel).rowAt HLP.out k (by rw [HMP.out]; exact hlt)
      obtain ⟨b2, o2, a2, q2, rfl, -, x2, -⟩ := (HQ.out.keep HF2.out.bel).rowAt HLQ.out k (by rw [HMQ.out]; exact hlt)
      have e1 : (P.getD k []).length = lenN P k := rfl
      have e2 : (Q.getD k []).length = lenN P k := by rw [HLE.out]; rfl
      rw [e1] at x1
      rw [e2] at x2
      have HST := Lib.hid (totN_take P k (by rw [HMP.out]; exact hlt))
      have hb := HLB.out k
      obtain ⟨z, hz⟩ : ∃ z, lenN P k = z := ⟨_, rfl⟩
      obtain ⟨S, hS⟩ : ∃ S, totN (P.take k) = S := ⟨_, rfl⟩
      rw [hz] at x1 x2 hb HST
      rw [hS] at htk HST ⊢
      have z1 : ((z : Int) != (z : Int)) = false := by simp
      have d1 : (0 : Int) ≤ (k : Int) := by omega
      have d2 : (k : Int) < (m : Int) := by omega
      clear e1 e2 hz hS
      go_wp2_with fail
      exact ⟨⟨k + 1, by omega, by simp, by rw [HST.out]; simp⟩, by simp only [intOf]; omega⟩
    · obtain rfl : k = m := by omega
      have e1 : totN (P.take k) = n := by rw [List.take_of_length_le (by rw [HMP.out]; exact Nat.le_refl _), HTN.out]
      rw [e1]
      clear e1 htk hlt
      have HCP := Lib.hid (fun (W : World) (hW : Rm W ap RP) => tabCopied RP P k ap cp W hW HLP.out HMP.out (by omega) (fun i _ => by have := HLB.out i; omega))
      have HCQ := Lib.hid (fun (W : World) (hW : Rm W aq RQ) => tabCopied RQ Q k aq cq W hW HLQ.out HMQ.out (by omega) (fun i _ => by have := HLBQ.out i; omega))
      go_wp2_with fail
      go_cut [9, 10] from 58 to 63 (fun s9 s10 wc => ∃ (adp : Option Addr) (cpp : Nat) (R1 : List Rw) (adq : Option Addr) (cqq : Nat) (R2 : List Rw), s9 = .slice adp k cpp ∧ s10 = .slice adq k cqq ∧ Hid (lsR R1 = P ∧ lsR R2 = Q) ∧ Hid (Fr w wc (pqE adp k cpp R1 adq k cqq R2 [])))
      case first =>
        go_region_with (first
          | (go_at_call_of 79 (Value.slice ap k cp); refine (HCP.out _ (by first | exact HP.out.keep HF2.out.bel | exact HP.out.keep HF2.out.drew.bel)).mono ?_; rintro e w3 ⟨adp, cpp, R1, rfl, hr1, hf1⟩; have HR1 := Lib.hid hr1; have HF3 : Hid (Fr w w3 (outE adp k cpp R1 :: (R1.map re ++ [eP N (.slice ap k cp) (.slice aq k cq)]))) := Lib.hid (by first | exact HF2.out.call hf1 | exact HF2.out.drew.call hf1); clear hr1 hf1; obtain ⟨e0, e1, -, -, -, -⟩ := HF3.out.rpM (b := N) (v1 := .slice ap k cp) (v2 := .slice aq k cq) (by simp))
          | (go_at_call_of 79 (Value.slice aq k cq); refine (HCQ.out _ (by first | exact HQ.out.keep HF3.out.bel | exact HQ.out.keep HF3.out.drew.bel)).mono ?_; rintro e w4 ⟨adq, cqq, R2, rfl, hr2, hf2⟩; have HR2 := Lib.hid hr2; have HF4 : Hid (Fr w w4 (outE adq k cqq R2 :: (R2.map re ++ (outE adp k cpp R1 :: (R1.map re ++ [eP N (.slice ap k cp) (.slice aq k cq)]))))) := Lib.hid (by have := HF3.out.call hf2; simpa using this); clear hr2 hf2))
        all_goals (go_wp2_with fail; go_meet; exact ⟨adp, cpp, R1, adq, cqq, R2, rfl, rfl, Lib.hid ⟨HR1.out, HR2.out⟩, Lib.hid ((HF4.out.perm pq_swap).sub (by simp))⟩)
      case rest =>
      obtain ⟨adp, cpp, R1, adq, cqq, R2, rfl, rfl, HR12, HF5⟩ := hcut
      clear HF2 c0 c1 HCP HCQ
      have hmk := make_ints n (by omega)
      obtain ⟨O, hO⟩ : ∃ O, wc.heap.size = O := ⟨_, rfl⟩
      have HF6 := Lib.hid (HF5.out.makeInts' n (by omega) O hO)
      have hO1 : (wc.alloc (.cells (rowCells n (fun _ => 0)) 3)).heap.size = O + 1 := by rw [World.size_alloc, hO]
      have HO1 := Lib.hid hO1
      have HOO := Lib.hid hO
      have HF7 : Hid (Fr w ((wc.alloc (.cells (rowCells n (fun _ => 0)) 3)).alloc (.cells #[.int .i64 ((n : Int) - 1)] 3)) (boxI (O + 1) (pre n) :: pqE adp k cpp R1 adq k cqq R2 [⟨3, .slice (some ⟨O, 0, .none⟩) n n, ints (List.replicate n 0)⟩])) := Lib.hid (by
        have := HF6.out.lit' [(n : Int) - 1] #[.int .i64 ((n : Int) - 1)] rfl 1 rfl (by omega) 3 (O + 1) hO1
        rw [pre_eq]
        refine this.perm (List.Perm.cons _ ?_)
        exact (pq_last _).symm)
      clear hO1 HF5 HF6
      go_wp2_with fail
      clear hmk hO
      go_loopg [12] (n + 1) (fun gk s12 wr => ∃ (q B : Nat) (RA RB : List Rw) (L : List Int), s12 = .pointer (some ⟨B, 0, .none⟩) ∧ gk = q + 1 ∧ q ≤ n ∧ Hid (Gd (lsR RA) (lsR RB) q) ∧ Hid (RA.length = k ∧ RB.length = k) ∧ Hid (L.length = n ∧ back q (lsR RA) (lsR RB) ++ L.drop q = back n P Q) ∧ Hid ((∀ p ∈ RA, p.2.2.length ≤ 10) ∧ ∀ p ∈ RB, p.2.2.length ≤ 10) ∧
        Hid (Fr w wr (boxI B (pre q) :: pqE adp k cpp RA adq k cqq RB [⟨3, .slice (some ⟨O, 0, .none⟩) n n, ints L⟩])))
      case atStart =>
        refine ⟨n, O + 1, R1, R2, List.replicate n 0, rfl, rfl, Nat.le_refl _, Lib.hid (by rw [HR12.out.1, HR12.out.2]; exact HG.out), Lib.hid ⟨by rw [← lsR_len, HR12.out.1, HMP.out], by rw [← lsR_len, HR12.out.2, HMQ.out]⟩, Lib.hid ⟨by simp, by rw [HR12.out.1, HR12.out.2, List.drop_of_length_le (by simp), List.append_nil]⟩, Lib.hid ⟨fun p hp => ?_, fun p hp => ?_⟩, HF7⟩
        · have hm : p.2.2 ∈ P := by rw [← HR12.out.1]; exact List.mem_map_of_mem (f := fun p : Rw => p.2.2) hp
          obtain ⟨j, hj, e⟩ := List.getElem_of_mem hm
          have := HLB.out j
          unfold lenN at this
          rw [List.getD_eq_getElem?_getD, List.getElem?_eq_getElem hj] at this
          rw [← e]; exact this
        · have hm : p.2.2 ∈ Q := by rw [← HR12.out.2]; exact List.mem_map_of_mem (f := fun p : Rw => p.2.2) hp
          obtain ⟨j, hj, e⟩ := List.getElem_of_mem hm
          have := HLBQ.out j
          unfold lenN at this
          rw [List.getD_eq_getElem?_getD, List.getElem?_eq_getElem hj] at this
          rw [← e]; exact this
      case round =>
        obtain ⟨q, B, RA, RB, L, rfl, hgk, hqn, HGD, HLEN, HOUT, HRB, HF⟩ := hrel
        clear HF7 HOO HO1
        cases q with
        | zero =>
          obtain ⟨gb, eb, -, -, hgbc, -⟩ := HF.out.open (by simp)
          cases eb
          have hcb : wr.cell? ⟨B, 0, .none⟩ = some (.int .i64 (-1)) := hgbc 0 (by simp)
          have HL := Lib.hid HOUT.out.2
          have HFO : Hid (Fr w wr [⟨3, .slice (some ⟨O, 0, .none⟩) n n, ints L⟩]) := Lib.hid ((HF.out.tail.perm (pq_last _)).sub (.cons_cons _ (List.nil_sublist _)))
          clear hgbc
          go_wp2_with fail
          go_ret2
          refine ⟨_, n, rfl, Nat.le_refl _, ?_⟩
          have e : back n P Q = L := by have := HL.out; simpa [back] using this.symm
          rw [e]; exact HFO.out
        | succ q =>
          obtain ⟨gb, eb, hgb1, hgb2, hgbc, hgbz⟩ := HF.out.open (by simp)
          cases eb
          have hcb : wr.cell? ⟨B, 0, .none⟩ = some (.int .i64 (q : Int)) := hgbc 0 (by simp)
          have st := gd_step HGD.out
          obtain ⟨hRAk, hRBk⟩ := HLEN.out
          obtain ⟨i, hi⟩ : ∃ i, rowO (lsR RB) q = i := ⟨_, rfl⟩
          rw [hi] at st
          obtain ⟨tq, hq1⟩ := st.qrow
          obtain ⟨tp, zp, hp1, hcorn⟩ := st.prow
          have HUN := Lib.hid (unput_upS (lsR RA) i tp zp hp1)
          have HSAFE := Lib.hid (p_safe (lsR RA) i tp zp HGD.out.sp HGD.out.pd hp1 hcorn)
          clear hcorn
          have hik : i < k := by
            have := (List.getElem?_eq_some_iff.1 hq1).1
            rw [lsR_len, hRBk] at this; exact this
          have hiA : i < RA.length := by omega
          have hiB : i < RB.length := by omega
          have hlA : RA[i].2.2 = tp ++ [zp] := by
            unfold lsR at hp1
            rw [List.getElem?_map, List.getElem?_eq_getElem hiA] at hp1
            exact Option.some.inj hp1
          have hlB : RB[i].2.2 = tq ++ [(q : Int)] := by
            unfold lsR at hq1
            rw [List.getElem?_map, List.getElem?_eq_getElem hiB] at hq1
            exact Option.some.inj hq1
          have hpq := HF.out.tail.rmPQ (adp := adp) (np := k) (cp := cpp) (RP := RA) (adq := adq) (nq := k) (cq := cqq) (RQ := RB) (fun e he => by simp at he ⊢; rcases he with h | h | h | h <;> simp [h])
          have hidx := idxRows RB (lsR RB) k adq cqq q B wr hpq.2 rfl (by rw [lsR_len]; exact hRBk) (by omega) (fun j hj => by
            unfold lenN
            rw [List.getD_eq_getElem?_getD]
            unfold lsR
            rw [List.getElem?_map]
            cases hz : RB[j]? with
            | none => simp
            | some p => have := HRB.out.2 p (List.mem_of_getElem? hz); simp; omega) hcb hgb2 (by rw [hi]; exact hik)
          rw [hi] at hidx
          have HIDX := Lib.hid hidx
          have HST := Lib.hid st; have HI := Lib.hid hi; have HPQ := Lib.hid hpq; have HLA := Lib.hid hlA; have HLB2 := Lib.hid hlB
          clear hidx st hi hpq hlA hlB hq1 hp1 hgbc hgbz
          go_wp2_with fail
          refine HIDX.out.mono ?_; rintro e w3 ⟨rfl, hf⟩
          have HF3 := Lib.hid (HF.out.keep hf.bel)
          have hb3 := (hf.bel.cell (p := ⟨B, 0, .none⟩) hgb2).trans hcb
          clear hf HIDX hcb HPQ
          obtain ⟨gp, e, hgp1, hgp2, hgpc, hgpz⟩ := HF3.out.swap.open (by simp; omega)
          subst e
          have hF3q : Fr w w3 (outE adq k cqq RB :: (RB.map re ++ (outE (some ⟨gp, 0, .none⟩) k cpp RA :: (RA.map re ++ [⟨3, .slice (some ⟨O, 0, .none⟩) n n, ints L⟩, boxI B (pre (q + 1))])))) := HF3.out.perm (by
            have h1 : (boxI B (pre (q + 1)) :: pqE (some ⟨gp, 0, .none⟩) k cpp RA adq k cqq RB [⟨3, .slice (some ⟨O, 0, .none⟩) n n, ints L⟩]).Perm (pqE (some ⟨gp, 0, .none⟩) k cpp RA adq k cqq RB [⟨3, .slice (some ⟨O, 0, .none⟩) n n, ints L⟩, boxI B (pre (q + 1))]) := by
              have e1 : (pqE (some ⟨gp, 0, .none⟩) k cpp RA adq k cqq RB [⟨3, .slice (some ⟨O, 0, .none⟩) n n, ints L⟩, boxI B (pre (q + 1))]) = pqE (some ⟨gp, 0, .none⟩) k cpp RA adq k cqq RB [⟨3, .slice (some ⟨O, 0, .none⟩) n n, ints L⟩] ++ [boxI B (pre (q + 1))] := by simp
              rw [e1]
              exact (List.perm_append_comm (l₁ := [boxI B (pre (q + 1))]))
            exact h1.trans pq_swap)
          obtain ⟨gq, e, hgq1, hgq2, hgqc, hgqz⟩ := hF3q.open (by simp; omega)
          subst e
          have hnpq : gp ≠ gq := by
            have := (List.pairwise_cons.1 hF3q.os.far).1 (outE (some ⟨gp, 0, .none⟩) k cpp RA) (by simp)
            rcases this with h | h
            · cases h
            · exact fun e => h (by rw [e]; rfl)
          have hnqp : gq ≠ gp := fun e => hnpq e.symm
          have xp := hgpc i (by simp; omega)
          have xq := hgqc i (by simp; omega)
          rw [List.getElem?_map, List.getElem?_eq_getElem hiA] at xp
          rw [List.getElem?_map, List.getElem?_eq_getElem hiB] at xq
          have zp1 := hgpz i
          have zq1 := hgqz i
          have hlens : tp.length = tq.length := by
            have h := congrArg (fun L => L[i]?) HGD.out.len
            simp only [List.getElem?_map] at h
            unfold lsR at h
            simp only [List.getElem?_map, List.getElem?_eq_getElem hiA, List.getElem?_eq_getElem hiB, Option.map_some, HLA.out, HLB2.out] at h
            simpa using h
          obtain ⟨⟨ai, ci, li⟩, hA⟩ : ∃ p : Rw, RA[i] = p := ⟨_, rfl⟩
          obtain ⟨⟨bi, di, mi⟩, hB⟩ : ∃ p : Rw, RB[i] = p := ⟨_, rfl⟩
          have hli : li = tp ++ [zp] := by have := HLA.out; rw [hA] at this; exact this
          have hmi : mi = tq ++ [(q : Int)] := by have := HLB2.out; rw [hB] at this; exact this
          subst hli; subst hmi
          rw [hA] at xp
          rw [hB] at xq
          have hrow := Fr.rowOut (M := [boxI B (pre (q + 1)), outE (some ⟨gp, 0, .none⟩) k cpp RA]) HF3.out i hiA
          rw [hA] at hrow
          obtain ⟨gi, e, -, -, hgic, -⟩ := Fr.open (T := 3) (ad := ai) (n := (tp ++ [zp]).length) (cap := ci) (xs := ints (tp ++ [zp])) hrow (by rw [ints_len]; simp)
          subst e
          have hrcap : tp.length + 1 ≤ ci := by have := Fr.cap (T := 3) (ad := some ⟨gi, 0, .none⟩) (n := (tp ++ [zp]).length) (cap := ci) (xs := ints (tp ++ [zp])) hrow; simpa using this
          have hrowq := Fr.rowOut (M := [outE (some ⟨gq, 0, .none⟩) k cqq RB]) hF3q i hiB
          rw [hB] at hrowq
          obtain ⟨gj, e, -, -, -, -⟩ := Fr.open (T := 3) (ad := bi) (n := (tq ++ [(q : Int)]).length) (cap := di) (xs := ints (tq ++ [(q : Int)])) hrowq (by rw [ints_len]; simp)
          subst e
          have hqcap : tq.length + 1 ≤ di := by have := Fr.cap (T := 3) (ad := some ⟨gj, 0, .none⟩) (n := (tq ++ [(q : Int)]).length) (cap := di) (xs := ints (tq ++ [(q : Int)])) hrowq; simpa using this
          have xz := hgic tp.length (by rw [ints_len]; simp)
          rw [ints_get _ _ (by simp), nth_snoc, if_pos rfl] at xz
          have HA := Lib.hid hA; have HB := Lib.hid hB
          have HF4 : Hid (Fr w ((w3.setCell ⟨gp, i, .none⟩ (.slice (some ⟨gi, 0, .none⟩) tp.length ci)).setCell ⟨gq, i, .none⟩ (.slice (some ⟨gj, 0, .none⟩) tp.length di)) (boxI B (pre (q + 1)) :: pqE (some ⟨gp, 0, .none⟩) k cpp (RA.set i (some ⟨gi, 0, .none⟩, ci, tp)) (some ⟨gq, 0, .none⟩) k cqq (RB.set i (some ⟨gj, 0, .none⟩, di, tq)) [⟨3, .slice (some ⟨O, 0, .none⟩) n n, ints L⟩])) := Lib.hid (by
            have h1 := HF3.out.cutRow i hiA _ _ _ _ hA
            have h2 := Fr.cutRow (bx := boxI B (pre (q + 1))) (go := gq) (R := RB) (h1.perm (List.Perm.cons _ pq_swap)) i hiB _ _ _ _ hB
            rw [show (Value.slice (some ⟨gj, 0, .none⟩) tp.length di) = .slice (some ⟨gj, 0, .none⟩) tq.length di from by rw [hlens]]
            exact h2.perm (List.Perm.cons _ pq_swap))
          have hsl1 : ∀ W, Sem.run Try.prog (Instr.slice 32 (.slice (some ⟨gi, 0, .none⟩) (tp.length + 1) ci) none (some (.int .i64 (tp.length : Int))) none) W = .ok (.slice (some ⟨gi, 0, .none⟩) tp.length ci) W := slice_to gi _ ci tp.length (by omega) hrcap
          have hsl2 : ∀ W, Sem.run Try.prog (Instr.slice 32 (.slice (some ⟨gj, 0, .none⟩) (tp.length + 1) di) none (some (.int .i64 (tp.length : Int))) none) W = .ok (.slice (some ⟨gj, 0, .none⟩) tp.length di) W := slice_to gj _ di tp.length (by omega) (by omega)
          have hxp : w3.cell? ⟨gp, i, .none⟩ = some (.slice (some ⟨gi, 0, .none⟩) (tp.length + 1) ci) := by rw [xp]; unfold rv; simp
          have hxq : w3.cell? ⟨gq, i, .none⟩ = some (.slice (some ⟨gj, 0, .none⟩) (tp.length + 1) di) := by rw [xq]; unfold rv; simp [hlens]
          have htpb : tp.length ≤ 10 := by have := HRB.out.1 _ (List.getElem_mem hiA); rw [hA] at this; simp at this; omega
          have HTL := Lib.hid hlens
          obtain ⟨T0, hT0⟩ : ∃ T0, tp.length = T0 := ⟨_, rfl⟩
          rw [hT0] at xz HF4 hsl1 hsl2 hxp hxq htpb
          have HT0 := Lib.hid hT0
          have i1 : (0 : Int) ≤ (i : Int) := by omega
          have i2 : (i : Int) < (k : Int) := by omega
          clear hrow hrowq hgic hgpc hgpz hgqc hgqz xp xq hF3q hA hB hlens hT0 hrcap hqcap hgp1 hgp2 hgq1 hgq2
          go_wp2_with fail
          go_region
          go_wp2_with fail
          have hdrA : lsR (RA.set i (some ⟨gi, 0, .none⟩, ci, tp)) = dr (lsR RA) i := by
            rw [dr_set _ _ (by rw [lsR_len]; exact hiA), lsR_set]
            congr 1
            rw [List.getD_eq_getElem?_getD]
            unfold lsR
            rw [List.getElem?_map, List.getElem?_eq_getElem hiA]
            simp [HLA.out]
          have hdrB : lsR (RB.set i (some ⟨gj, 0, .none⟩, di, tq)) = dr (lsR RB) i := by
            rw [dr_set _ _ (by rw [lsR_len]; exact hiB), lsR_set]
            congr 1
            rw [List.getD_eq_getElem?_getD]
            unfold lsR
            rw [List.getElem?_map, List.getElem?_eq_getElem hiB]
            simp [HLB2.out]
          have HB5 : Hid (∀ p ∈ RB.set i (some ⟨gj, 0, .none⟩, di, tq), p.2.2.length ≤ 10) := Lib.hid fun p hp => by
            rcases List.mem_or_eq_of_mem_set hp with h | h
            · exact HRB.out.2 p h
            · subst h; show tq.length ≤ 10; have := HTL.out; have := HT0.out; omega
          have HA5 : Hid (∀ p ∈ RA.set i (some ⟨gi, 0, .none⟩, ci, tp), p.2.2.length ≤ 10) := Lib.hid fun p hp => by
            rcases List.mem_or_eq_of_mem_set hp with h | h
            · exact HRB.out.1 p h
            · subst h; show tp.length ≤ 10; have := HT0.out; omega
          have HSRT : Hid (∀ t, t < i → ((lsR (RA.set i (some ⟨gi, 0, .none⟩, ci, tp))).getD t []).Pairwise (· < ·)) := Lib.hid fun t ht => by
            rw [hdrA, dr_set _ _ (by rw [lsR_len]; exact hiA), getD_set _ _ _ _ (by rw [lsR_len]; exact hiA), if_neg (by omega)]
            exact stdE_row _ _ HGD.out.sp
          have HUP0 : Hid (upS (lsR (RA.set i (some ⟨gi, 0, .none⟩, ci, tp))) i zp = unput (lsR RA) i) := Lib.hid (by rw [hdrA]; exact HUN.out.symm)
          have HSF0 : Hid (SafeU (lsR (RA.set i (some ⟨gi, 0, .none⟩, ci, tp))) i zp) := Lib.hid (by rw [hdrA]; exact HSAFE.out)
          have HDB := Lib.hid hdrB
          obtain ⟨RB', hRB'⟩ : ∃ RB', RB.set i (some ⟨gj, 0, .none⟩, di, tq) = RB' := ⟨_, rfl⟩
          have HLB' : Hid (RB'.length = k) := Lib.hid (by rw [← hRB', List.length_set]; exact hRBk)
          rw [hRB'] at HF4 HB5 HDB
          clear hdrA hdrB HF3 HF hb3 xz hsl1 hsl2 hxp hxq zp1 zq1 hnpq hnqp HUN HSAFE hRB' HA HB HLA HLB2
          go_loopw [13, 15] (fun s13 s15 wr => ∃ (r : Nat) (RC : List Rw) (y : Int), s13 = .int .i64 (pre r) ∧ s15 = .int .i64 y ∧ r ≤ i ∧ Hid (RC.length = k) ∧ Hid (upS (lsR RC) r y = unput (lsR RA) i) ∧ Hid (SafeU (lsR RC) r y) ∧ Hid (∀ t, t < r → ((lsR RC).getD t []).Pairwise (· < ·)) ∧ Hid (∀ p ∈ RC, p.2.2.length ≤ 10) ∧
            Hid (Fr w wr (boxI B (pre (q + 1)) :: pqE (some ⟨gp, 0, .none⟩) k cpp RC (some ⟨gq, 0, .none⟩) k cqq RB' [⟨3, .slice (some ⟨O, 0, .none⟩) n n, ints L⟩]))) (fun s13 _ _ => (intOf s13 + 1).toNat)
          case atStart => exact ⟨i, _, zp, by rw [pre_eq], rfl, Nat.le_refl _, Lib.hid (by rw [List.length_set]; exact hRAk), HUP0, HSF0, HSRT, HA5, Lib.hid HF4.out.drew⟩
          case round =>
            clear HF4 HUP0 HSF0 HSRT HA5
            obtain ⟨r, RC, y, rfl, rfl, hri, HCL, HUP, HSF, HSR, HRL, HF⟩ := hrel
            cases r with
            | zero =>
              have hup : (lsR RC, y) = unput (lsR RA) i := HUP.out
              have hP : lsR RC = (unput (lsR RA) i).1 := congrArg Prod.fst hup
              have hY : y = (unput (lsR RA) i).2 := congrArg Prod.snd hup
              obtain ⟨gb, eb, hB1, hB2, hgbc, hgbz⟩ := HF.out.open (by simp)
              cases eb
              have hcb : wr.cell? ⟨B, 0, .none⟩ = some (.int .i64 (q : Int)) := hgbc 0 (by simp)
              have hout : Fr w wr (⟨3, .slice (some ⟨O, 0, .none⟩) n n, ints L⟩ :: boxI B (pre (q + 1)) :: pqE (some ⟨gp, 0, .none⟩) k cpp RC (some ⟨gq, 0, .none⟩) k cqq RB' []) := (HF.out.perm (List.Perm.cons _ (pq_last _))).swap
              have hLl := HOUT.out.1
              obtain ⟨_, e, _, c1, z1⟩ := hout.openI q (by rw [hLl]; omega)
              cases e
              have hnOB : O ≠ B := by
                have := (List.pairwise_cons.1 hout.os.far).1 _ List.mem_cons_self
                rcases this with h | h
                · cases h
                · exact fun e => h (by rw [e]; rfl)
              have hnBO : B ≠ O := fun e => hnOB e.symm
              have HS1 := Lib.hid (hout.setInt q y)
              have hsz : (wr.setCell ⟨O, q, .none⟩ (.int .i64 y)).heap.size = wr.heap.size := by simp
              have HS2 : Hid (Fr w ((wr.setCell ⟨O, q, .none⟩ (.int .i64 y)).alloc (.cells #[.int .i64 ((q : Int) - 1)] 3)) (boxI wr.heap.size (pre q) :: pqE (some ⟨gp, 0, .none⟩) k cpp RC (some ⟨gq, 0, .none⟩) k cqq RB' [⟨3, .slice (some ⟨O, 0, .none⟩) n n, ints (L.set q y)⟩])) := Lib.hid (by
                have h1 := HS1.out.lit' [(q : Int) - 1] #[.int .i64 ((q : Int) - 1)] rfl 1 rfl (by omega) 3 wr.heap.size hsz
                rw [pre_eq]
                have h2 := h1.sub (.cons_cons _ (.cons_cons _ (List.sublist_cons_self _ _)))
                exact h2.perm (List.Perm.cons _ (pq_last _).symm))
              have HGN : Hid (Gd (lsR RC) (lsR RB') q) := Lib.hid (by rw [hP, HDB.out]; exact HST.out.gd)
              have HON : Hid ((L.set q y).length = n ∧ back q (lsR RC) (lsR RB') ++ (L.set q y).drop q = back n P Q) := Lib.hid ⟨by rw [List.length_set]; exact hLl, by
                rw [← HOUT.out.2, back, HI.out, hP, HDB.out, hY, List.append_assoc]
                congr 1
                have hq2 : q < (L.set q (unput (lsR RA) i).2).length := by rw [List.length_set, hLl]; omega
                rw [List.drop_eq_getElem_cons hq2, List.getElem_set_self, List.drop_set_of_lt (by omega)]; rfl⟩
              obtain ⟨x0, hx0⟩ : ∃ x0, nth L q = x0 := ⟨_, rfl⟩
              rw [hx0] at c1
              have i3 : (0 : Int) ≤ (q : Int) := by omega
              have i4 : (q : Int) < (n : Int) := by omega
              clear hup hP hY hgbc hgbz hout hLl hx0
              go_wp2_with fail
              go_roundg (q + 1)
              case measure => omega
              case rel => exact ⟨q, wr.heap.size, RC, RB', L.set q y, rfl, rfl, by omega, HGN, Lib.hid ⟨HCL.out, HLB'.out⟩, HON, Lib.hid ⟨HRL.out, HB5.out⟩, HS2⟩
            | succ r =>
              have hrk : r < RC.length := by rw [HCL.out]; omega
              obtain ⟨hs1, hs2⟩ : 0 < pI ((lsR RC).getD r []) y ∧ SafeU ((lsR RC).set r (((lsR RC).getD r []).set (pI ((lsR RC).getD r []) y - 1) y)) r (nth ((lsR RC).getD r []) (pI ((lsR RC).getD r []) y - 1)) := HSF.out
              have hup : upS ((lsR RC).set r (((lsR RC).getD r []).set (pI ((lsR RC).getD r []) y - 1) y)) r (nth ((lsR RC).getD r []) (pI ((lsR RC).getD r []) y - 1)) = unput (lsR RA) i := HUP.out
              have hsrt := HSR.out r (by omega)
              obtain ⟨⟨a, c, l⟩, hR⟩ : ∃ p : Rw, RC[r] = p := ⟨_, rfl⟩
              have hgd : (lsR RC).getD r [] = l := by
                rw [List.getD_eq_getElem?_getD]
                unfold lsR
                rw [List.getElem?_map, List.getElem?_eq_getElem hrk, hR]; rfl
              rw [hgd] at hs1 hs2 hup hsrt
              have hple := pI_le l y
              obtain ⟨J, hJ⟩ : ∃ J, pI l y = J + 1 := ⟨pI l y - 1, by omega⟩
              have hJl : J < l.length := by omega
              have hlo := pI_lo l y J (by omega)
              have hhi : ∀ t, J < t → t < l.length → y < nth l t := fun t h1 h2 => by
                have h5 := pI_hi l y (by omega)
                rw [hJ] at h5
                rcases Nat.eq_or_lt_of_le (show J + 1 ≤ t from h1) with e | e
                · rw [← e]; exact h5
                · have := pw_nth_lt hsrt e h2; omega
              rw [hJ, Nat.add_sub_cancel] at hs2 hup
              have hll : l.length ≤ 10 := by have := HRL.out _ (List.getElem_mem hrk); rw [hR] at this; exact this
              obtain ⟨go, e, _, hgo2, hgoc, hgoz⟩ := HF.out.swap.open (by simp; omega)
              cases e
              have xo := hgoc r (by simp; omega)
              rw [List.getElem?_map, List.getElem?_eq_getElem hrk, hR] at xo
              have hrow := Fr.rowOut (M := [boxI B (pre (q + 1)), outE (some ⟨gp, 0, .none⟩) k cpp RC]) HF.out r hrk
              rw [hR] at hrow
              obtain ⟨g, e, -, -, hgc, hgz⟩ := Fr.open (T := 3) (ad := a) (n := l.length) (cap := c) (xs := ints l) hrow (by rw [ints_len]; omega)
              subst e
              have hcells : ∀ t, t < l.length → wr.cell? ⟨g, t, .none⟩ = some (.int .i64 (nth l t)) := fun t ht => by rw [hgc t (by rw [ints_len]; exact ht), ints_get l t ht]
              have HCE := Lib.hid hcells
              have xj := hcells J hJl
              have zj := hgz J
              have HHI := Lib.hid hhi
              have HP6 := Lib.hid (HF.out.putRow r hrk c l hR J y)
              have hls : lsR (RC.set r (some ⟨g, 0, .none⟩, c, l.set J y)) = (lsR RC).set r (l.set J y) := lsR_set _ _ _
              have HUP2 : Hid (upS (lsR (RC.set r (some ⟨g, 0, .none⟩, c, l.set J y))) r (nth l J) = unput (lsR RA) i) := Lib.hid (by rw [hls]; exact hup)
              have HSF2 : Hid (SafeU (lsR (RC.set r (some ⟨g, 0, .none⟩, c, l.set J y))) r (nth l J)) := Lib.hid (by rw [hls]; exact hs2)
              have HSR2 : Hid (∀ t, t < r → ((lsR (RC.set r (some ⟨g, 0, .none⟩, c, l.set J y))).getD t []).Pairwise (· < ·)) := Lib.hid fun t ht => by
                rw [hls, getD_set _ _ _ _ (by rw [lsR_len]; exact hrk), if_neg (by omega)]
                exact HSR.out t (by omega)
              have HRL2 : Hid (∀ p ∈ RC.set r (some ⟨g, 0, .none⟩, c, l.set J y), p.2.2.length ≤ 10) := Lib.hid fun p hp => by
                rcases List.mem_or_eq_of_mem_set hp with h | h
                · exact HRL.out p h
                · subst h; show (l.set J y).length ≤ 10; rw [List.length_set]; exact hll
              obtain ⟨x, hx⟩ : ∃ x, nth l J = x := ⟨_, rfl⟩
              rw [hx] at xj hlo HUP2 HSF2
              have hxo : wr.cell? ⟨gp, r, .none⟩ = some (.slice (some ⟨g, 0, .none⟩) l.length c) := xo
              obtain ⟨M, hM⟩ : ∃ M, l.length = M + 1 := ⟨l.length - 1, by omega⟩
              rw [hM] at hxo hJl hll
              have HMM := Lib.hid hM
              have HJX := Lib.hid hx
              have i5 : (0 : Int) ≤ (r : Int) := by omega
              have i6 : (r : Int) < (k : Int) := by omega
              have f1 : (pre (r + 1)) = (r : Int) := rfl
              rw [f1]
              clear f1 xo hrow hgc hgz hcells hs1 hs2 hup hsrt hgd hple hJ hhi hls hM hx hR hgoc hgoz hgo2
              go_wp2_with fail
              go_loop [16] (fun s => ∃ j : Nat, J ≤ j ∧ j < M + 1 ∧ s = .int .i64 j) (fun s => (intOf s).toNat)
              case atStart => exact ⟨M, by omega, by omega, rfl⟩
              case round =>
                obtain ⟨j, hj1, hj2, rfl⟩ := hrel
                have xt := HCE.out j (by rw [HMM.out]; exact hj2)
                have i7 : (0 : Int) ≤ (j : Int) := by omega
                have i8 : (j : Int) < ((M + 1 : Nat) : Int) := by omega
                by_cases hjJ : j = J
                · subst hjJ
                  have g1 : decide (y < x) = false := decide_eq_false (by omega)
                  clear xt
                  go_wp2_with fail
                  go_region
                  go_wp2_with fail
                  go_roundw
                  case rel => exact ⟨r, _, x, by rw [pre_eq], rfl, by omega, Lib.hid (by rw [List.length_set]; exact HCL.out), HUP2, HSF2, HSR2, HRL2, Lib.hid HP6.out.drew⟩
                  case measure => simp only [intOf]; omega
                · have hlt := HHI.out j (by omega) (by rw [HMM.out]; exact hj2)
                  obtain ⟨v, hv⟩ : ∃ v, nth l j = v := ⟨_, rfl⟩
                  rw [hv] at xt hlt
                  have g1 : decide (y < v) = true := decide_eq_true hlt
                  obtain ⟨j', rfl⟩ : ∃ j', j = j' + 1 := ⟨j - 1, by omega⟩
                  clear hv
                  go_wp2_with fail
                  go_round
                  case rel => exact ⟨j', by omega, by omega, by simp⟩
                  case measure => simp only [intOf]; omega
end Go.Proofs.Ytooghdnlaonkaaa
