/- Several of my texts in one: TabK2, TabLv. -/
import Derived.Test.YtooghdnlaonkaaaRw35
import Derived.Test.YtooghdnlaonkaaaRw38
import Derived.Test.YtooghdnlaonkaaaRw13
import Derived.BigQuiet
import Derived.Test.YtooghdnlaonkaaaRw32
import Derived.Test.YtooghdnlaonkaaaRw07
/- Contracts of tableau.copied and of the search for a row. -/
namespace Go.Proofs.Ytooghdnlaonkaaa
open Go.RowKit

def CopSaid (ls : List (List Int)) (n : Nat) (w : World) (e : Ending) (w' : World) : Prop :=
  ∃ (ad : Option Addr) (cp : Nat) (RR : List Rw), e = .returned (.slice ad n cp) ∧ lsR RR = ls ∧ Fr w w' (outE ad n cp RR :: RR.map re)
set_option maxRecDepth 100000 in
set_option maxHeartbeats 4000000 in
theorem tabCopied (R : List Rw) (ls : List (List Int)) (n : Nat) (a : Option Addr) (cap : Nat) (w : World) (h : Rm w a R) (hls : lsR R = ls) (hn : ls.length = n) (hm : n ≤ 1000) (hl : ∀ i, i < n → lenN ls i ≤ 1000) :
    Calls Try.prog 79 #[.slice a n cap] w (CopSaid ls n w) := by
  have HN := Lib.hid hn; have HR := Lib.hid h; have HL := Lib.hid hls; have HB := Lib.hid hl
  clear h hls hn hl
  go_enter Try.func79, Try.ntmps79
  go_wp2_with fail
  go_loopw [3, 8] (fun o i wr => ∃ (k : Nat) (ad : Option Addr) (cp : Nat) (RR : List Rw), k ≤ n ∧ i = .int .i64 k ∧ o = .slice ad k cp ∧ Hid (lsR RR = ls.take k) ∧ Hid (Fr w wr (outE ad k cp RR :: RR.map re))) (fun _ i _ => n - (intOf i).toNat)
  case atStart => exact ⟨0, .none, 0, [], by omega, rfl, rfl, Lib.hid rfl, Lib.hid ((Fr.start w).nilSlice _)⟩
  case round =>
    obtain ⟨k, ad, cp, RR, hk, rfl, rfl, HLR, HF⟩ := hrel
    by_cases hlt : k < n
    · obtain ⟨b, off, a1, c1, rfl, hb, xw, s1⟩ := HR.out.rowAt HL.out k (by rw [HN.out]; exact hlt)
      have x1 := (HF.out.bel.cell (p := ⟨b, off + k, .none⟩) hb).trans xw
      have hlen : (ls.getD k []).length = lenN ls k := rfl
      rw [hlen] at x1
      have b2 := HB.out k hlt
      have HS1 := Lib.hid (HF.out.old s1)
      have HTK : Hid (ls.take (k + 1) = ls.take k ++ [ls.getD k []]) := Lib.hid (by
        rw [List.take_succ_eq_append_getElem (by rw [HN.out]; exact hlt), List.getD_eq_getElem?_getD, List.getElem?_eq_getElem (by rw [HN.out]; exact hlt)]; rfl)
      obtain ⟨r, hr⟩ : ∃ r, ls.getD k [] = r := ⟨_, rfl⟩
      obtain ⟨m, hm2⟩ : ∃ m, lenN ls k = m := ⟨_, rfl⟩
      have HRM : Hid (r.length = m) := Lib.hid (by rw [← hr]; exact hm2)
      rw [hr] at HS1 HTK
      rw [hm2] at x1 b2
      have HCL := Lib.hid (slClone r m a1 c1 wr HS1.out HRM.out (by omega))
      clear xw s1 hb hr hm2 hlen
      go_wp2_with (first
        | (go_at_call 24; refine HCL.out.mono ?_; rintro e w2 ⟨ad2, cp2, rfl, hc2, hf2⟩; have HF2 := Lib.hid ((HF.out.call hf2).swap); clear hf2)
        | (with_reducible refine at_slot 16 ?_; go_must (refine wpList_push' rfl _ _ 48 32 (.slice .none 0 0) 24 Try.underlying48 slsInfo rfl (by omega) rfl ad k cp (RR.map rv) (.slice ad2 m cp2) _ w2.heap.size rfl rfl HF2.out rfl rfl ?_ ?_); rotate_left; intro ad' cp' w3 hf3 hlt3))
      · have HF4 : Hid (Fr w w3 (outE ad' (k + 1) cp' (RR ++ [((ad2, cp2, r) : Rw)]) :: (RR ++ [((ad2, cp2, r) : Rw)]).map re)) := Lib.hid (by
          have e1 : RR.map rv ++ [.slice ad2 m cp2] = (RR ++ [((ad2, cp2, r) : Rw)]).map rv := by rw [List.map_append]; simp only [List.map_cons, List.map_nil, rv, HRM.out]
          rw [e1] at hf3
          refine hf3.perm (List.Perm.cons _ ?_)
          rw [List.map_append]
          have : (⟨3, .slice ad2 m cp2, ints r⟩ : Ent) = re ((ad2, cp2, r) : Rw) := by unfold re rv; rw [show ((ad2, cp2, r) : Rw).2.2.length = m from HRM.out]
          rw [this]
          exact (List.perm_append_comm (l₁ := RR.map re) (l₂ := [re ((ad2, cp2, r) : Rw)])).symm)
        go_roundw
        case rel => exact ⟨k + 1, ad', cp', RR ++ [((ad2, cp2, r) : Rw)], by omega, by go_num, rfl, Lib.hid (by rw [HTK.out, ← HLR.out]; simp [lsR]), HF4⟩
        case measure => simp only [intOf]; omega
      · omega
    · obtain rfl : k = n := by omega
      go_wp2_with fail
      go_ret
      exact ⟨ad, cp, RR, rfl, by rw [HLR.out, List.take_of_length_le (by rw [HN.out]; exact Nat.le_refl _)], HF.out⟩
theorem rowO_at (v : Int) : ∀ ls : List (List Int), rowO ls v < ls.length → (ls.getD (rowO ls v) []).getLast? = some v
  | [], h => by simp [rowO] at h
  | r :: ls, h => by
    by_cases c : r.getLast? = some v
    · rw [rowO, if_pos c]; simpa using c
    · rw [rowO, if_neg c] at h ⊢
      have := rowO_at v ls (by simpa using h)
      simpa using this
theorem rowO_lt (v : Int) : ∀ (ls : List (List Int)) (k : Nat), k < rowO ls v → (ls.getD k []).getLast? ≠ some v
  | [], k, h => by simp [rowO] at h
  | r :: ls, k, h => by
    by_cases c : r.getLast? = some v
    · rw [rowO, if_pos c] at h; omega
    · rw [rowO, if_neg c] at h
      cases k with
      | zero => simpa using c
      | succ k => have := rowO_lt v ls k (by omega); simpa using this
theorem last_nth (l : List Int) (h : 0 < l.length) : l.getLast? = some (nth l (l.length - 1)) := by
  rw [List.getLast?_eq_getElem?, List.getElem?_eq_getElem (by omega)]
  simp [nth, show l.length - 1 < l.length by omega]
set_option maxRecDepth 100000 in
set_option maxHeartbeats 2000000 in
theorem back1 (l : List Int) (m : Nat) (a : Option Addr) (c : Nat) (v : Int) (B : Nat) (W : World) (hs : Sa W a (ints l)) (hm : l.length = m) (hv : W.cell? ⟨B, 0, .none⟩ = some (.int .i64 v)) (hb : m ≤ 1000) :
    Calls Try.prog 81 #[.slice a m c, .pointer (some ⟨B, 0, .none⟩)] W fun e w' => e = .returned (.bool (decide (l.getLast? = some v))) ∧ Fr W w' [] := by
  rcases Nat.eq_zero_or_pos m with h0 | h0
  · subst h0
    obtain rfl := List.eq_nil_of_length_eq_zero hm
    clear hm hs
    go_enter Try.func81, Try.ntmps81
    go_wp2_with fail
    go_quiet (fail)
    go_wp2_with fail
    go_ret
    exact ⟨by simp, (Fr.start W).drewN _⟩
  · obtain ⟨b, off, rfl, hbb, hc⟩ := hs.int (m - 1) (by omega)
    have hl := last_nth l (by omega)
    rw [hm] at hl
    obtain ⟨x, hx⟩ : ∃ x, nth l (m - 1) = x := ⟨_, rfl⟩
    rw [hx] at hc hl
    have HL := Lib.hid hl
    clear hx hl hm hs
    have g1 : decide ((0 : Int) < (m : Int)) = true := decide_eq_true (by omega)
    by_cases hxv : x = v
    · subst hxv
      have g2 : (x == x) = true := by simp
      go_enter Try.func81, Try.ntmps81
      go_wp2_with fail
      go_quiet (fail)
      go_wp2_with fail
      go_ret
      exact ⟨by rw [HL.out]; simp, (Fr.start W).drewN _⟩
    · have g2 : (x == v) = false := by rw [beq_eq_false_iff_ne]; exact hxv
      have HX := Lib.hid hxv
      clear hxv
      go_enter Try.func81, Try.ntmps81
      go_wp2_with fail
      go_quiet (fail)
      go_wp2_with fail
      go_ret
      exact ⟨by rw [HL.out]; have := HX.out; simp [this], (Fr.start W).drewN _⟩
set_option maxRecDepth 100000 in
set_option maxHeartbeats 4000000 in
theorem idxRows (R : List Rw) (ls : List (List Int)) (n : Nat) (a : Option Addr) (cap : Nat) (v : Int) (B : Nat) (w : World) (h : Rm w a R) (hls : lsR R = ls) (hn : ls.length = n) (hm : n ≤ 1000) (hl : ∀ i, i < n → lenN ls i ≤ 1000)
    (hv : w.cell? ⟨B, 0, .none⟩ = some (.int .i64 v)) (hB : B < w.heap.size) (hi : rowO ls v < n) :
    Calls Try.prog 80 #[.slice a n cap, .func (.func 81) #[] #[.pointer (some ⟨B, 0, .none⟩)]] w fun e w' => e = .returned (.int .i64 (rowO ls v : Nat)) ∧ Fr w w' [] := by
  have HN := Lib.hid hn; have HR := Lib.hid h; have HL := Lib.hid hls; have HB := Lib.hid hl; have HV := Lib.hid hv; have HBB := Lib.hid hB
  obtain ⟨i, hie⟩ : ∃ i, rowO ls v = i := ⟨_, rfl⟩
  have HAT := Lib.hid (rowO_at v ls (by rw [hn]; exact hi))
  have HLT := Lib.hid (rowO_lt v ls)
  rw [hie] at hi HAT HLT ⊢
  clear h hls hn hl hv hB hie
  go_enter Try.func80, Try.ntmps80
  go_wp2_with fail
  go_loopw [8] (fun q wr => ∃ k : Nat, k ≤ i ∧ q = .int .i64 k ∧ Hid (Fr w wr [])) (fun q _ => n - (intOf q).toNat)
  case atStart => exact ⟨0, by omega, rfl, Lib.hid (Fr.start w)⟩
  case round =>
    obtain ⟨k, hk, rfl, HF⟩ := hrel
    have hlt : k < n := by omega
    obtain ⟨b, off, a1, c1, rfl, hb, xw, s1⟩ := HR.out.rowAt HL.out k (by rw [HN.out]; exact hlt)
    have x1 := (HF.out.bel.cell (p := ⟨b, off + k, .none⟩) hb).trans xw
    have hv := (HF.out.bel.cell (p := ⟨B, 0, .none⟩) HBB.out).trans HV.out
    have hlen : (ls.getD k []).length = lenN ls k := rfl
    rw [hlen] at x1
    have b2 := HB.out k hlt
    have hcall := back1 (ls.getD k []) (lenN ls k) a1 c1 v B wr (HF.out.old s1) rfl hv b2
    obtain ⟨m, hm2⟩ : ∃ m, lenN ls k = m := ⟨_, rfl⟩
    rw [hm2] at x1 b2 hcall
    have d1 : (0 : Int) ≤ (k : Int) := by omega
    have d2 : (k : Int) < (n : Int) := by omega
    clear xw s1 hb hm2 hlen hv
    by_cases hki : k = i
    · subst hki
      rw [decide_eq_true HAT.out] at hcall
      have HC := Lib.hid hcall
      clear hcall
      go_wp2_with fail
      refine HC.out.mono ?_; rintro e w2 ⟨rfl, hf2⟩
      go_wp2_with fail
      go_ret
      exact ⟨rfl, HF.out.keep hf2.bel⟩
    · rw [decide_eq_false (HLT.out k (by omega))] at hcall
      have HC := Lib.hid hcall
      clear hcall
      go_wp2_with fail
      refine HC.out.mono ?_; rintro e w2 ⟨rfl, hf2⟩
      go_wp2_with fail
      go_roundw
      case rel => exact ⟨k + 1, by omega, by go_num, Lib.hid (HF.out.keep hf2.bel)⟩
      case measure => simp only [intOf]; omega
end Go.Proofs.Ytooghdnlaonkaaa
/- castkeep.tableaux -/
namespace Go.Proofs.Ytooghdnlaonkaaa
open Go.RowKit

theorem lsR2 {R : List Rw} {l0 l1 : List Int} (h : lsR R = [l0, l1]) : ∃ a0 c0 a1 c1, R = [((a0, c0, l0) : Rw), (a1, c1, l1)] := by
  match R, h with
  | [(a0, c0, m0), (a1, c1, m1)], h =>
    simp [lsR] at h
    obtain ⟨rfl, rfl⟩ := h
    exact ⟨_, _, _, _, rfl⟩
theorem rsk120 : rsk [1, 2, 0] 3 = ([[0, 2], [1]], [[0, 1], [2]]) := by decide
theorem isP120 : IsP [1, 2, 0] := isP_lit _ (by decide) (by decide)
theorem Fr.outAt {w0 w : World} {ad : Option Addr} {n cap : Nat} {R : List Rw} {L : List Ent} (h : Fr w0 w L) (hm : outE ad n cap R ∈ L) (h0 : 0 < R.length) :
    ∃ g, ad = some ⟨g, 0, .none⟩ ∧ g < w.heap.size ∧ ∀ i (hi : i < R.length), w.cell? ⟨g, i, .none⟩ = some (rv R[i]) := by
  obtain ⟨g, e, _, h1, h2, _⟩ := (h.pick hm).open (by simpa using h0)
  exact ⟨g, e, h1, fun i hi => by rw [h2 i (by simpa using hi), List.getElem?_map, List.getElem?_eq_getElem hi]; rfl⟩
set_option maxRecDepth 100000 in
set_option maxHeartbeats 4000000 in
theorem tableaux_any (w : World) : Calls Try.prog 21 #[] w fun e w' => e = .returned (.bool true) ∧ Below w.heap.size w w' := by
  have P0 := Lib.hid isP120
  have R0 := Lib.hid rsk120
  go_enter Try.func21, Try.ntmps21
  go_wp2_with fail
  have F1 := (Fr.start w).lit [1, 2, 0] #[.int .i64 1, .int .i64 2, .int .i64 0] rfl 3 rfl (by omega) 3
  refine (tabOf [1, 2, 0] 3 _ _ _ (F1.get 0 rfl) rfl P0.out (by omega)).mono ?_
  rw [R0.out]
  rintro e w1 ⟨adp, np, cp, RP, adq, nq, cq, RQ, rfl, h1, h2, h3, h4, hF⟩
  obtain ⟨a0, c0, a1, c1, rfl⟩ := lsR2 h1
  obtain ⟨b0, d0, b1, d1, rfl⟩ := lsR2 h2
  have e3 : np = 2 := h3.symm
  have e4 : nq = 2 := h4.symm
  clear h3 h4
  subst e3; subst e4
  have HF2 : Hid (Fr w w1 [outE adp 2 cp [(a0, c0, [0, 2]), (a1, c1, [1])], re (a0, c0, [0, 2]), re (a1, c1, [1]), outE adq 2 cq [(b0, d0, [0, 1]), (b1, d1, [2])], re (b0, d0, [0, 1]), re (b1, d1, [2])]) := Lib.hid (F1.call hF |>.sub (by simp))
  obtain ⟨N, hN⟩ : ∃ N, w1.heap.size = N := ⟨_, rfl⟩
  have HF3 := Lib.hid (HF2.out.rp (.slice adp 2 cp) (.slice adq 2 cq) N hN)
  have HN := Lib.hid hN
  clear F1 hF h1 h2
  obtain ⟨p0, p1, -, -, z0, z1⟩ := HF3.out.rpM (b := N) (v1 := .slice adp 2 cp) (v2 := .slice adq 2 cq) (by simp)
  obtain ⟨gp, e, -, hcp⟩ := HF3.out.outAt (ad := adp) (n := 2) (cap := cp) (R := [(a0, c0, [0, 2]), (a1, c1, [1])]) (by simp) (by simp)
  subst e
  obtain ⟨gq, e, -, hcq⟩ := HF3.out.outAt (ad := adq) (n := 2) (cap := cq) (R := [(b0, d0, [0, 1]), (b1, d1, [2])]) (by simp) (by simp)
  subst e
  have x0 : _ = some (Value.slice a0 2 c0) := hcp 0 (by simp)
  have x1 : _ = some (Value.slice a1 1 c1) := hcp 1 (by simp)
  have y0 : _ = some (Value.slice b0 2 d0) := hcq 0 (by simp)
  have y1 : _ = some (Value.slice b1 1 d1) := hcq 1 (by simp)
  clear hcp hcq
  go_wp2_with fail
  have HA0 := Lib.hid (HF3.out.lit' [0, 2] #[.int .i64 0, .int .i64 2] rfl 2 rfl (by omega) 3 (N + 1) (by simp [HN.out]))
  refine (slEqual [0, 2] [0, 2] 2 2 _ _ _ _ _ (HA0.out.get 3 rfl) (HA0.out.get 0 rfl) rfl rfl (by omega) (by omega)).mono ?_; rintro e w3 ⟨rfl, hf⟩
  rw [decide_eq_true rfl]
  have HG0 : Hid (Fr w w3 [eP N (.slice (some ⟨gp, 0, .none⟩) 2 cp) (.slice (some ⟨gq, 0, .none⟩) 2 cq), outE (some ⟨gp, 0, .none⟩) 2 cp [(a0, c0, [0, 2]), (a1, c1, [1])], re (a0, c0, [0, 2]), re (a1, c1, [1]), outE (some ⟨gq, 0, .none⟩) 2 cq [(b0, d0, [0, 1]), (b1, d1, [2])], re (b0, d0, [0, 1]), re (b1, d1, [2])]) := Lib.hid (HA0.out.tail.keep hf.bel)
  clear hf HA0 HF3 p0 p1 z0 z1 x0 x1 y0 y1
  obtain ⟨p0, p1, -, -, z0, z1⟩ := HG0.out.rpM (b := N) (v1 := .slice (some ⟨gp, 0, .none⟩) 2 cp) (v2 := .slice (some ⟨gq, 0, .none⟩) 2 cq) (by simp)
  obtain ⟨_, e, -, hcp⟩ := HG0.out.outAt (ad := some ⟨gp, 0, .none⟩) (n := 2) (cap := cp) (R := [(a0, c0, [0, 2]), (a1, c1, [1])]) (by simp) (by simp)
  cases e
  obtain ⟨_, e, -, hcq⟩ := HG0.out.outAt (ad := some ⟨gq, 0, .none⟩) (n := 2) (cap := cq) (R := [(b0, d0, [0, 1]), (b1, d1, [2])]) (by simp) (by simp)
  cases e
  have x0 : _ = some (Value.slice a0 2 c0) := hcp 0 (by simp)
  have x1 : _ = some (Value.slice a1 1 c1) := hcp 1 (by simp)
  have y0 : _ = some (Value.slice b0 2 d0) := hcq 0 (by simp)
  have y1 : _ = some (Value.slice b1 1 d1) := hcq 1 (by simp)
  clear hcp hcq
  go_wp2_with fail
  have HA1 := Lib.hid (HG0.out.lit' [1] #[.int .i64 1] rfl 1 rfl (by omega) 3 w3.heap.size rfl)
  refine (slEqual [1] [1] 1 1 _ _ _ _ _ (HA1.out.get 4 rfl) (HA1.out.get 0 rfl) rfl rfl (by omega) (by omega)).mono ?_; rintro e w4 ⟨rfl, hf⟩
  rw [decide_eq_true rfl]
  have HG1 : Hid (Fr w w4 [eP N (.slice (some ⟨gp, 0, .none⟩) 2 cp) (.slice (some ⟨gq, 0, .none⟩) 2 cq), outE (some ⟨gp, 0, .none⟩) 2 cp [(a0, c0, [0, 2]), (a1, c1, [1])], re (a0, c0, [0, 2]), re (a1, c1, [1]), outE (some ⟨gq, 0, .none⟩) 2 cq [(b0, d0, [0, 1]), (b1, d1, [2])], re (b0, d0, [0, 1]), re (b1, d1, [2])]) := Lib.hid (HA1.out.tail.keep hf.bel)
  clear hf HA1 HG0 p0 p1 z0 z1 x0 x1 y0 y1
  obtain ⟨p0, p1, -, -, z0, z1⟩ := HG1.out.rpM (b := N) (v1 := .slice (some ⟨gp, 0, .none⟩) 2 cp) (v2 := .slice (some ⟨gq, 0, .none⟩) 2 cq) (by simp)
  obtain ⟨_, e, -, hcp⟩ := HG1.out.outAt (ad := some ⟨gp, 0, .none⟩) (n := 2) (cap := cp) (R := [(a0, c0, [0, 2]), (a1, c1, [1])]) (by simp) (by simp)
  cases e
  obtain ⟨_, e, -, hcq⟩ := HG1.out.outAt (ad := some ⟨gq, 0, .none⟩) (n := 2) (cap := cq) (R := [(b0, d0, [0, 1]), (b1, d1, [2])]) (by simp) (by simp)
  cases e
  have x0 : _ = some (Value.slice a0 2 c0) := hcp 0 (by simp)
  have x1 : _ = some (Value.slice a1 1 c1) := hcp 1 (by simp)
  have y0 : _ = some (Value.slice b0 2 d0) := hcq 0 (by simp)
  have y1 : _ = some (Value.slice b1 1 d1) := hcq 1 (by simp)
  clear hcp hcq
  go_wp2_with fail
  have HA2 := Lib.hid (HG1.out.lit' [0, 1] #[.int .i64 0, .int .i64 1] rfl 2 rfl (by omega) 3 w4.heap.size rfl)
  refine (slEqual [0, 1] [0, 1] 2 2 _ _ _ _ _ (HA2.out.get 6 rfl) (HA2.out.get 0 rfl) rfl rfl (by omega) (by omega)).mono ?_; rintro e w5 ⟨rfl, hf⟩
  rw [decide_eq_true rfl]
  have HG2 : Hid (Fr w w5 [eP N (.slice (some ⟨gp, 0, .none⟩) 2 cp) (.slice (some ⟨gq, 0, .none⟩) 2 cq), outE (some ⟨gp, 0, .none⟩) 2 cp [(a0, c0, [0, 2]), (a1, c1, [1])], re (a0, c0, [0, 2]), re (a1, c1, [1]), outE (some ⟨gq, 0, .none⟩) 2 cq [(b0, d0, [0, 1]), (b1, d1, [2])], re (b0, d0, [0, 1]), re (b1, d1, [2])]) := Lib.hid (HA2.out.tail.keep hf.bel)
  clear hf HA2 HG1 p0 p1 z0 z1 x0 x1 y0 y1
  obtain ⟨p0, p1, -, -, z0, z1⟩ := HG2.out.rpM (b := N) (v1 := .slice (some ⟨gp, 0, .none⟩) 2 cp) (v2 := .slice (some ⟨gq, 0, .none⟩) 2 cq) (by simp)
  obtain ⟨_, e, -, hcp⟩ := HG2.out.outAt (ad := some ⟨gp, 0, .none⟩) (n := 2) (cap := cp) (R := [(a0, c0, [0, 2]), (a1, c1, [1])]) (by simp) (by simp)
  cases e
  obtain ⟨_, e, -, hcq⟩ := HG2.out.outAt (ad := some ⟨gq, 0, .none⟩) (n := 2) (cap := cq) (R := [(b0, d0, [0, 1]), (b1, d1, [2])]) (by simp) (by simp)
  cases e
  have x0 : _ = some (Value.slice a0 2 c0) := hcp 0 (by simp)
  have x1 : _ = some (Value.slice a1 1 c1) := hcp 1 (by simp)
  have y0 : _ = some (Value.slice b0 2 d0) := hcq 0 (by simp)
  have y1 : _ = some (Value.slice b1 1 d1) := hcq 1 (by simp)
  clear hcp hcq
  go_wp2_with fail
  have HA3 := Lib.hid (HG2.out.lit' [2] #[.int .i64 2] rfl 1 rfl (by omega) 3 w5.heap.size rfl)
  refine (slEqual [2] [2] 1 1 _ _ _ _ _ (HA3.out.get 7 rfl) (HA3.out.get 0 rfl) rfl rfl (by omega) (by omega)).mono ?_; rintro e w6 ⟨rfl, hf⟩
  rw [decide_eq_true rfl]
  have HG3 : Hid (Fr w w6 [eP N (.slice (some ⟨gp, 0, .none⟩) 2 cp) (.slice (some ⟨gq, 0, .none⟩) 2 cq), outE (some ⟨gp, 0, .none⟩) 2 cp [(a0, c0, [0, 2]), (a1, c1, [1])], re (a0, c0, [0, 2]), re (a1, c1, [1]), outE (some ⟨gq, 0, .none⟩) 2 cq [(b0, d0, [0, 1]), (b1, d1, [2])], re (b0, d0, [0, 1]), re (b1, d1, [2])]) := Lib.hid (HA3.out.tail.keep hf.bel)
  clear hf HA3 HG2 p0 p1 z0 z1 x0 x1 y0 y1
  go_wp2_with fail
  go_ret
  exact ⟨by simp, HG3.out.bel⟩
end Go.Proofs.Ytooghdnlaonkaaa
