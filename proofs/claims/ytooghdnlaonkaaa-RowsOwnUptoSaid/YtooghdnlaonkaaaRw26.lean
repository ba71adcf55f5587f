/- Several of my texts in one: Lin. -/
import Derived.Test.YtooghdnlaonkaaaRw25
import Derived.Test.YtooghdnlaonkaaaRw13
import Derived.Test.YtooghdnlaonkaaaRw09
import Derived.RegionTactic
import Derived.Deep.QuietTactic
import Derived.Shelf.Abstract
/- Contracts of package lines: Check, longest, Up, Down. -/
namespace Go.Proofs.Ytooghdnlaonkaaa
open Go.RowKit

theorem pick_le (may : Int → Int → Bool) (l : List Int) (x : Int) (i : Nat) : (pickK may l (rowsK may l i) x i).length ≤ i := by
  rcases pick_is may l (rowsK may l i) x i with h | ⟨j, hj, _, e⟩
  · rw [h]; simp
  · rw [e, rowsK_at may l j i hj]
    have := (dL_bd may l j).2
    unfold dL at this; omega
theorem madeSls (n : Nat) : madeCells (Value.cells (.slice .none 0 0)) (n * 1) = (List.replicate n (Value.slice .none 0 0)).toArray := by
  rw [Nat.mul_one]
  apply Array.ext
  · rw [size_madeCells]; simp
  · intro i h1 h2
    have e1 : (madeCells (Value.cells (.slice .none 0 0)) n)[i] = Value.slice .none 0 0 := by simp [madeCells, Value.cells, Nat.mod_one]
    rw [e1]; simp
/-- make([][]int, n) -/
theorem make_sls (n : Nat) (h : n ≤ 1000000) (w : World) : Sem.run Try.prog (Instr.makeSlice 48 (.int .i64 (n : Int)) (.int .i64 (n : Int))) w = .ok (.slice (some ⟨w.heap.size, 0, .none⟩) n n) (w.alloc (.cells (List.replicate n (Value.slice .none 0 0)).toArray 32)) := by
  obtain ⟨i0, hi, hz0, hz1, hz2⟩ := info_parts slsInfo
  have := run_make (P := Try.prog) w 48 32 i0 (.slice .none 0 0) Try.underlying48 hi hz0 .i64 .i64 n n (by omega) (by omega) (by rw [hz2]; omega) (by omega)
  rw [this, hz1, Int.toNat_natCast, madeSls]
def nilR : Rw := (.none, 0, [])
/-- the cells of 'at' when R is done, and cur is there next -/
def atX (R : List Rw) (cur : Rw) (m : Nat) : List Value := R.map rv ++ rv cur :: List.replicate m (Value.slice .none 0 0)
theorem atX_len (R : List Rw) (cur : Rw) (m : Nat) : (atX R cur m).length = R.length + 1 + m := by simp [atX]; omega
theorem atX_get (R : List Rw) (cur : Rw) (m k : Nat) (h : k < R.length) : (atX R cur m)[k]? = some (rv (R[k]'h)) := by
  unfold atX; rw [List.getElem?_append_left (by simpa using h)]; simp [h]
theorem atX_cur (R : List Rw) (cur : Rw) (m : Nat) : (atX R cur m)[R.length]? = some (rv cur) := by
  unfold atX; rw [List.getElem?_append_right (by simp)]; simp
theorem atX_set (R : List Rw) (cur p : Rw) (m : Nat) : (atX R cur m).set R.length (rv p) = atX R p m := by
  unfold atX; rw [List.set_append_right _ _ (by simp)]; simp
theorem atX_next (R : List Rw) (p : Rw) (m : Nat) : atX R p m = (R ++ [p]).map rv ++ List.replicate m (Value.slice .none 0 0) := by simp [atX]
theorem atX_start (R : List Rw) (m : Nat) : R.map rv ++ List.replicate (m + 1) (Value.slice .none 0 0) = atX R nilR m := by simp [atX, nilR, rv, List.replicate_succ]

set_option maxRecDepth 100000 in
set_option maxHeartbeats 8000000 in
theorem longest_any (may : Int → Int → Bool) (g : Nat) (hg : ∀ args w, (callFunc g args).run Try.prog w = .ok (.enter g args) w)
    (hf : ∀ x y W, Calls Try.prog g #[.int .i64 x, .int .i64 y] W fun e w' => e = .returned (.bool (may x y)) ∧ W = w')
    (l : List Int) (n : Nat) (a : Option Addr) (cap : Nat) (w : World) (h : Sa w a (ints l)) (hn : l.length = n) (h30 : n ≤ 30) (hc : n ≤ cap) :
    Calls Try.prog 103 #[.slice a n cap, .func (.func g) #[] #[]] w (OneV (bestK may l n) (bestK may l n).length w) := by
  have HS := Lib.hid h; have HN := Lib.hid hn; have HFC := Lib.hid hf
  have hmk := make_sls n (by omega)
  have b1 : (n : Int) ≤ (cap : Int) := by omega
  clear h hn hf
  go_enter Try.func103, Try.ntmps103
  go_wp2_with fail
  have F1 := Lib.hid ((Fr.start w).new 32 (List.replicate n (Value.slice .none 0 0)).toArray (List.replicate n (Value.slice .none 0 0)) rfl n (by simp) (by omega))
  obtain ⟨G, hG⟩ : ∃ G, w.heap.size = G := ⟨_, rfl⟩
  rw [hG] at F1
  simp only [hG]
  clear hmk
  go_loopw [5, 16] (fun s5 s16 wr => ∃ (i : Nat) (R : List Rw) (bv : Rw) (L : List Ent), i ≤ n ∧ s16 = .int .i64 i ∧ s5 = .slice bv.1 bv.2.2.length bv.2.1 ∧ Hid (R.map (fun p => p.2.2) = rowsK may l i) ∧ Hid (R.length = i) ∧
    Hid (bv.2.2 = bestK may l i ∧ (bv = nilR ∨ bv ∈ R)) ∧ Hid (∀ p ∈ R, re p ∈ L) ∧ Hid (Fr w wr (⟨32, .slice (some ⟨G, 0, .none⟩) n n, R.map rv ++ List.replicate (n - i) (Value.slice .none 0 0)⟩ :: L))) (fun _ i _ => n - (intOf i).toNat)
  case atStart => exact ⟨0, [], nilR, [], by omega, rfl, rfl, Lib.hid rfl, Lib.hid rfl, Lib.hid ⟨rfl, .inl rfl⟩, Lib.hid (by simp), F1⟩
  case round =>
    obtain ⟨i, R, ⟨ba, bc, bl⟩, L, hi, rfl, rfl, HR, HRL, HB, HL, HF⟩ := hrel
    by_cases hlt : i < n
    · obtain ⟨b0, off, rfl, hb0, cx⟩ := (HF.out.old HS.out).int i (by rw [HN.out]; exact hlt)
      obtain ⟨x, hx⟩ : ∃ x, nth l i = x := ⟨_, rfl⟩
      rw [hx] at cx
      have HX := Lib.hid hx
      have e1 : (0 : Int) ≤ (i : Int) := by omega
      have e2 : (i : Int) < (n : Int) := by omega
      have e3 : (i : Int) ≤ (cap : Int) := by omega
      have HF2 : Hid (Fr w wr (⟨32, .slice (some ⟨G, 0, .none⟩) n n, atX R nilR (n - i - 1)⟩ :: L)) := Lib.hid (by
        have := HF.out
        rw [show n - i = (n - i - 1) + 1 by omega, atX_start] at this; exact this)
      clear HF hx
      go_wp2_with fail
      clear cx
      go_loopw [25] (fun s wr => ∃ (k : Nat) (cur : Rw), k ≤ i ∧ s = .int .i64 k ∧ Hid (cur.2.2 = pickK may l (rowsK may l i) x k ∧ (cur = nilR ∨ cur ∈ R)) ∧ Hid (Fr w wr (⟨32, .slice (some ⟨G, 0, .none⟩) n n, atX R cur (n - i - 1)⟩ :: L))) (fun s _ => i - (intOf s).toNat)
      case atStart => exact ⟨0, nilR, by omega, rfl, Lib.hid ⟨rfl, .inl rfl⟩, HF2⟩
      case round =>
        obtain ⟨k, ⟨ca, cc, cl⟩, hk, rfl, HC, HF⟩ := hrel
        by_cases hlt2 : k < i
        · obtain ⟨_, _, e, _, cy⟩ := (HF.out.old HS.out).int k (by rw [HN.out]; omega)
          cases e
          obtain ⟨y, hy⟩ : ∃ y, nth l k = y := ⟨_, rfl⟩
          rw [hy] at cy
          have hkR : k < R.length := by rw [HRL.out]; exact hlt2
          obtain ⟨⟨pa, pc, pl⟩, hp⟩ : ∃ p, R[k]'hkR = p := ⟨_, rfl⟩
          have hpm : (pa, pc, pl) ∈ R := by rw [← hp]; exact List.getElem_mem hkR
          have hpl : rowAt (rowsK may l i) k = pl := by
            rw [← HR.out]; unfold rowAt
            rw [List.getD_eq_getElem?_getD, List.getElem?_map, List.getElem?_eq_getElem hkR, hp]; rfl
          have hst : pickK may l (rowsK may l i) x (k + 1) = if may y x = true ∧ cl.length < pl.length then pl else cl := by
            have hc1 : cl = pickK may l (rowsK may l i) x k := HC.out.1
            rw [pickK, hy, hpl, ← hc1]
          obtain ⟨G', e, _, _, hcell, hz⟩ := HF.out.open (by rw [atX_len]; omega)
          cases e
          have c1 := hcell k (by rw [atX_len]; omega)
          have c2 := hcell i (by rw [atX_len, HRL.out]; omega)
          rw [atX_get R _ _ k hkR, hp] at c1
          rw [show (atX R (ca, cc, cl) (n - i - 1))[i]? = some (rv (ca, cc, cl)) from by have := atX_cur R (ca, cc, cl) (n - i - 1); rwa [HRL.out] at this] at c2
          unfold rv at c1 c2
          simp only at c1 c2
          have z2 := hz i
          have HPM := Lib.hid hpm; have HPL := Lib.hid hpl
          have d1 : (0 : Int) ≤ (k : Int) := by omega
          have d2 : (k : Int) < (i : Int) := by omega
          have d3 : (k : Int) < (n : Int) := by omega
          have HCL := Lib.hid fun W => HFC.out y x W
          obtain ⟨P, hP⟩ : ∃ P, pl.length = P := ⟨_, rfl⟩
          obtain ⟨C, hC⟩ : ∃ C, cl.length = C := ⟨_, rfl⟩
          rw [hP, hC] at hst
          rw [hP] at c1
          rw [hC] at c2
          have HP := Lib.hid hP
          clear hcell hz hp hpm hpl hy hkR hP hC
          by_cases hm : may y x = true
          · have HM := Lib.hid hm
            by_cases hcp : C < P
            · rw [if_pos ⟨hm, hcp⟩] at hst
              have HST := Lib.hid hst
              have g1 : decide ((C : Int) < (P : Int)) = true := decide_eq_true (by omega)
              have g2 : decide (C < P) = true := decide_eq_true hcp
              clear hst hm
              go_wp2_with fail
              go_quiet ((go_at_fn g; exact quiet_eq ((HCL.out _).mono fun _ _ ⟨a, b⟩ => ⟨by rw [a, HM.out], b⟩)))
              have c3 : (wr.drewN nq).cell? ⟨G, k, .none⟩ = some (.slice pa P pc) := c1
              have c4 : (wr.drewN nq).cell? ⟨G, i, .none⟩ = some (.slice ca C cc) := c2
              have z4 : (wr.drewN nq).frozen? ⟨G, i, .none⟩ = false := z2
              have F5 := (HF.out.drewN nq).set i (rv (pa, pc, pl))
              rw [show (atX R (ca, cc, cl) (n - i - 1)).set i (rv (pa, pc, pl)) = atX R (pa, pc, pl) (n - i - 1) from by have := atX_set R (ca, cc, cl) (pa, pc, pl) (n - i - 1); rwa [HRL.out] at this] at F5
              have hrv : rv (pa, pc, pl) = .slice pa P pc := by unfold rv; rw [HP.out]
              rw [hrv] at F5
              have HF5 := Lib.hid F5
              clear c1 c2 z2 F5 hrv
              go_wp2_with fail
              exact ⟨⟨k + 1, (pa, pc, pl), by omega, by simp, Lib.hid ⟨HST.out.symm, .inr HPM.out⟩, HF5⟩, by simp only [intOf]; omega⟩
            · rw [if_neg (fun h => hcp h.2)] at hst
              have HST := Lib.hid hst
              have g1 : decide ((C : Int) < (P : Int)) = false := decide_eq_false (by omega)
              have g2 : decide (C < P) = false := decide_eq_false hcp
              clear hst hm
              go_wp2_with fail
              go_quiet ((go_at_fn g; exact quiet_eq ((HCL.out _).mono fun _ _ ⟨a, b⟩ => ⟨by rw [a, HM.out], b⟩)))
              have HF5 := Lib.hid (HF.out.drewN nq)
              clear c1 c2 z2
              go_wp2_with fail
              exact ⟨⟨k + 1, (ca, cc, cl), by omega, by simp, Lib.hid ⟨HST.out.symm, HC.out.2⟩, HF5⟩, by simp only [intOf]; omega⟩
          · have hmf : may y x = false := by simpa using hm
            have HM := Lib.hid hmf
            rw [if_neg (fun h => hm h.1)] at hst
            have HST := Lib.hid hst
            clear hst hm hmf
            go_wp2_with fail
            go_quiet ((go_at_fn g; exact quiet_eq ((HCL.out _).mono fun _ _ ⟨a, b⟩ => ⟨by rw [a, HM.out], b⟩)))
            have HF5 := Lib.hid (HF.out.drewN nq)
            clear c1 c2 z2
            go_wp2_with fail
            exact ⟨⟨k + 1, (ca, cc, cl), by omega, by simp, Lib.hid ⟨HST.out.symm, HC.out.2⟩, HF5⟩, by simp only [intOf]; omega⟩
        · obtain rfl : k = i := by omega
          have hcl : cl = pickK may l (rowsK may l k) x k := HC.out.1
          have hC30 : cl.length ≤ k := by rw [hcl]; exact pick_le may l x k
          have hrow : rowsK may l (k + 1) = rowsK may l k ++ [cl ++ [(k : Int)]] := by rw [rowsK, HX.out, ← hcl]
          have hlast : rowAt (rowsK may l (k + 1)) k = cl ++ [(k : Int)] := by rw [rowsK_last, HX.out, ← hcl]
          have hbest : bestK may l (k + 1) = if bl.length < (cl ++ [(k : Int)]).length then cl ++ [(k : Int)] else bl := by
            have hb1 : bl = bestK may l k := HB.out.1
            rw [bestK, hlast, ← hb1]
          rw [List.length_append, List.length_singleton] at hbest
          have HROW := Lib.hid hrow; have HBEST := Lib.hid hbest
          have HSC : Hid (Sa wr ca (ints cl)) := Lib.hid (by
            rcases HC.out.2 with e | e
            · simp only [nilR, Prod.mk.injEq] at e
              obtain ⟨rfl, rfl, rfl⟩ := e
              exact Sa.nil _ _
            · exact HF.out.mem (List.mem_cons_of_mem _ (HL.out _ e)))
          obtain ⟨G', e, _, _, hcell, hz⟩ := HF.out.open (by rw [atX_len]; omega)
          cases e
          have c2 := hcell k (by rw [atX_len, HRL.out]; omega)
          rw [show (atX R (ca, cc, cl) (n - k - 1))[k]? = some (rv (ca, cc, cl)) from by have := atX_cur R (ca, cc, cl) (n - k - 1); rwa [HRL.out] at this] at c2
          unfold rv at c2
          simp only at c2
          obtain ⟨C, hC⟩ : ∃ C, cl.length = C := ⟨_, rfl⟩
          obtain ⟨D, hD⟩ : ∃ D, bl.length = D := ⟨_, rfl⟩
          rw [hC] at c2 hC30 HBEST
          rw [hD] at HBEST ⊢
          have HCC := Lib.hid hC; have HDD := Lib.hid hD
          clear hcell hz hcl hrow hlast hbest hC hD
          go_wp2_with fail
          refine (slClone cl C ca cc _ HSC.out HCC.out (by omega)).mono ?_; rintro e w2 ⟨ad, cp, rfl, hcp, hf⟩
          have F2 := HF.out.call hf
          have HF2' := Lib.hid F2
          clear hf F2 c2 hcp
          have hC6 : C ≤ 1000000 := by omega
          by_cases hbc : D < C + 1
          · have g1 : decide ((D : Int) < (C : Int) + 1) = true := decide_eq_true (by omega)
            have HBC := HBEST.out
            rw [if_pos hbc] at HBC
            have HB2 := Lib.hid HBC
            clear HBC
            go_wp2_with (with_reducible refine at_slot 64 ?_; go_must (refine wpList_pushInt' rfl _ _ rfl ad C cp _ (k : Int) _ _ rfl rfl HF2'.out rfl hC6 ?_); intro ad' cp' w3 hf3 hlt3; obtain ⟨G', e, _, _, hcell, hz⟩ := hf3.swap.open (by rw [atX_len]; omega); cases e; have c3 := hcell k (by rw [atX_len, HRL.out]; omega); have z3 := hz k; rw [show (atX R (ca, cc, cl) (n - k - 1))[k]? = some (rv (ca, cc, cl)) from by have := atX_cur R (ca, cc, cl) (n - k - 1); rwa [HRL.out] at this] at c3; unfold rv at c3; simp only at c3; rw [HCC.out] at c3; have HF3 := Lib.hid hf3; clear hcell hz hf3 hlt3)
            go_wp2_with fail
            have hrv : rv (ad', cp', cl ++ [(k : Int)]) = .slice ad' (C + 1) cp' := by unfold rv; simp only [List.length_append, List.length_singleton, HCC.out]
            have F6 := HF3.out.swap.set k (.slice ad' (C + 1) cp')
            rw [← hrv] at F6
            rw [show (atX R (ca, cc, cl) (n - k - 1)).set k (rv (ad', cp', cl ++ [(k : Int)])) = (R ++ [(ad', cp', cl ++ [(k : Int)])]).map rv ++ List.replicate (n - (k + 1)) (Value.slice .none 0 0) from by
              have := atX_set R (ca, cc, cl) (ad', cp', cl ++ [(k : Int)]) (n - k - 1)
              rw [HRL.out] at this
              rw [this, atX_next, Nat.sub_sub]] at F6
            have F7 : Fr w (w3.setCell ⟨G, k, .none⟩ (rv (ad', cp', cl ++ [(k : Int)]))) (⟨32, .slice (some ⟨G, 0, .none⟩) n n, (R ++ [(ad', cp', cl ++ [(k : Int)])]).map rv ++ List.replicate (n - (k + 1)) (Value.slice .none 0 0)⟩ :: re (ad', cp', cl ++ [(k : Int)]) :: L) := F6
            rw [hrv] at F7
            have HF7 := Lib.hid F7
            clear F6 F7
            exact ⟨⟨k + 1, R ++ [(ad', cp', cl ++ [(k : Int)])], (ad', cp', cl ++ [(k : Int)]), re (ad', cp', cl ++ [(k : Int)]) :: L, by omega, by simp, hrv.symm, Lib.hid (by rw [List.map_append, HR.out, HROW.out]; rfl), Lib.hid (by simp [HRL.out]), Lib.hid ⟨HB2.out.symm, .inr (by simp)⟩, Lib.hid (fun p hp => by
              rcases List.mem_append.1 hp with hp | hp
              · exact List.mem_cons_of_mem _ (HL.out p hp)
              · rw [List.mem_singleton.1 hp]; exact List.mem_cons_self), HF7⟩, by simp only [intOf]; omega⟩
          · have g1 : decide ((D : Int) < (C : Int) + 1) = false := decide_eq_false (by omega)
            have HBC := HBEST.out
            rw [if_neg hbc] at HBC
            have HB2 := Lib.hid HBC
            clear HBC
            go_wp2_with (with_reducible refine at_slot 64 ?_; go_must (refine wpList_pushInt' rfl _ _ rfl ad C cp _ (k : Int) _ _ rfl rfl HF2'.out rfl hC6 ?_); intro ad' cp' w3 hf3 hlt3; obtain ⟨G', e, _, _, hcell, hz⟩ := hf3.swap.open (by rw [atX_len]; omega); cases e; have c3 := hcell k (by rw [atX_len, HRL.out]; omega); have z3 := hz k; rw [show (atX R (ca, cc, cl) (n - k - 1))[k]? = some (rv (ca, cc, cl)) from by have := atX_cur R (ca, cc, cl) (n - k - 1); rwa [HRL.out] at this] at c3; unfold rv at c3; simp only at c3; rw [HCC.out] at c3; have HF3 := Lib.hid hf3; clear hcell hz hf3 hlt3)
            go_wp2_with fail
            have hrv : rv (ad', cp', cl ++ [(k : Int)]) = .slice ad' (C + 1) cp' := by unfold rv; simp only [List.length_append, List.length_singleton, HCC.out]
            have F6 := HF3.out.swap.set k (.slice ad' (C + 1) cp')
            rw [← hrv] at F6
            rw [show (atX R (ca, cc, cl) (n - k - 1)).set k (rv (ad', cp', cl ++ [(k : Int)])) = (R ++ [(ad', cp', cl ++ [(k : Int)])]).map rv ++ List.replicate (n - (k + 1)) (Value.slice .none 0 0) from by
              have := atX_set R (ca, cc, cl) (ad', cp', cl ++ [(k : Int)]) (n - k - 1)
              rw [HRL.out] at this
              rw [this, atX_next, Nat.sub_sub]] at F6
            have F7 : Fr w (w3.setCell ⟨G, k, .none⟩ (rv (ad', cp', cl ++ [(k : Int)]))) (⟨32, .slice (some ⟨G, 0, .none⟩) n n, (R ++ [(ad', cp', cl ++ [(k : Int)])]).map rv ++ List.replicate (n - (k + 1)) (Value.slice .none 0 0)⟩ :: re (ad', cp', cl ++ [(k : Int)]) :: L) := F6
            rw [hrv] at F7
            have HF7 := Lib.hid F7
            clear F6 F7
            exact ⟨⟨k + 1, R ++ [(ad', cp', cl ++ [(k : Int)])], (ba, bc, bl), re (ad', cp', cl ++ [(k : Int)]) :: L, by omega, by simp, by simp only [HDD.out], Lib.hid (by rw [List.map_append, HR.out, HROW.out]; rfl), Lib.hid (by simp [HRL.out]), Lib.hid ⟨HB2.out.symm, HB.out.2.imp id fun h => List.mem_append_left _ h⟩, Lib.hid (fun p hp => by
              rcases List.mem_append.1 hp with hp | hp
              · exact List.mem_cons_of_mem _ (HL.out p hp)
              · rw [List.mem_singleton.1 hp]; exact List.mem_cons_self), HF7⟩, by simp only [intOf]; omega⟩
    · obtain rfl : i = n := by omega
      have hbl : bl = bestK may l i := HB.out.1
      have HSB : Hid (Sa wr ba (ints bl)) := Lib.hid (by
        rcases HB.out.2 with e | e
        · simp only [nilR, Prod.mk.injEq] at e
          obtain ⟨rfl, rfl, rfl⟩ := e
          exact Sa.nil _ _
        · exact HF.out.mem (List.mem_cons_of_mem _ (HL.out _ e)))
      have hb30 : bl.length ≤ 30 := by rw [hbl]; have := best_le may l i; omega
      have HBL := Lib.hid hbl
      obtain ⟨D, hD⟩ : ∃ D, bl.length = D := ⟨_, rfl⟩
      have HDD := Lib.hid hD
      rw [hD] at hb30 ⊢
      clear hbl hD
      go_wp2_with fail
      refine (slClone bl D ba bc _ HSB.out HDD.out (by omega)).mono ?_; rintro e w2 ⟨ad, cp, rfl, hcp, hf⟩
      have F2 := (HF.out.call hf).sub (M := [⟨3, .slice ad D cp, ints bl⟩]) (List.singleton_sublist.2 List.mem_cons_self)
      have HF2 := Lib.hid F2
      clear hf F2
      go_wp2_with fail
      go_ret
      have e1 : (bestK may l i).length = D := by rw [← HBL.out, HDD.out]
      rw [e1, ← HBL.out]
      exact ⟨ad, cp, rfl, hcp, HF2.out⟩
end Go.Proofs.Ytooghdnlaonkaaa
