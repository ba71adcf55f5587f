/- Several of my texts in one: Hal5. -/
import Derived.Test.YtbolgfiafbhicaaDoorDF18
import Derived.Test.YtbolgfiafbhicaaDoorDF20
/- Contract of join. -/
namespace Go.Proofs.YtbolgfiafbhicaaDoor
open Go.RowKit

theorem memInfo : (Tryd.prog.info? 65).map (fun i => (i.zero, i.size, i.bytes)) = some (some (.agg #[.string ByteArray.empty, .int .i64 0, .int .i64 0]), 3, 32) := by kernel_rfl
theorem loanInfo : (Tryd.prog.info? 125).map (fun i => (i.zero, i.size, i.bytes)) = some (some (.agg #[.string ByteArray.empty, .string ByteArray.empty, .int .i64 0]), 3, 40) := by kernel_rfl
def ErrW (w0 : World) (H : Nat) (s : HSt) (B : List Big) (er : Int) (e : Ending) (w' : World) : Prop := e = .returned (.int .i64 er) ∧ Hw w0 w' H s B
def joinE (s : HSt) (i n : Int) : Int := if 0 ≤ i then 8 else if n < 0 ∨ 100 < n then 1 else if s.M.length = 8 then 9 else 0
def joinW (s : HSt) (i n : Int) (nm : ByteArray) : HSt := if joinE s i n = 0 then ⟨s.M ++ [⟨nm, n, 0⟩], s.L⟩ else s
theorem Hw.keep {w0 w w' : World} {H : Nat} {s : HSt} {B : List Big} (h : Hw w0 w H s B) (b : Below w.heap.size w w') : Hw w0 w' H s B := by
  obtain ⟨am, cm, al, cl, hf⟩ := h
  exact ⟨am, cm, al, cl, hf.keep b⟩
set_option maxRecDepth 100000 in
set_option maxHeartbeats 8000000 in
theorem halJoin {w0 w : World} (H : Nat) (s : HSt) (B : List Big) (i k n : Int) (nm to : ByteArray) (h : Hw w0 w H s B) (h8 : s.M.length ≤ 8) :
    Calls Tryd.prog 57 #[.pointer (some ⟨H, 0, .none⟩), .int .i64 i, .agg #[.int .i64 k, .int .i64 n, .string nm, .string to]] w (ErrW w0 H (joinW s i n nm) B (joinE s i n)) := by
  have HK := Lib.hid (h.keep ((Fr.start w).alloc (.cells #[.int .i64 k, .int .i64 n, .string nm, .string to] 68)).bel)
  by_cases h0 : 0 ≤ i
  · have e1 : joinE s i n = 8 := by unfold joinE; rw [if_pos h0]
    have e2 : joinW s i n nm = s := by unfold joinW; rw [e1]; rfl
    have d0 : decide (0 ≤ i) = true := decide_eq_true h0
    rw [e1, e2]
    clear e1 e2 h
    go_enter Tryd.func57, Tryd.ntmps57
    go_wp2_with fail
    go_ret
    exact ⟨rfl, HK.out⟩
  · have d0 : decide (0 ≤ i) = false := decide_eq_false h0
    by_cases h1 : n < 0
    · have e1 : joinE s i n = 1 := by unfold joinE; rw [if_neg h0, if_pos (.inl h1)]
      have e2 : joinW s i n nm = s := by unfold joinW; rw [e1]; rfl
      have d1 : decide (n < 0) = true := decide_eq_true h1
      rw [e1, e2]
      clear e1 e2 h
      go_enter Tryd.func57, Tryd.ntmps57
      go_wp2_with fail
      go_ret
      exact ⟨rfl, HK.out⟩
    · have d1 : decide (n < 0) = false := decide_eq_false h1
      by_cases h2 : 100 < n
      · have e1 : joinE s i n = 1 := by unfold joinE; rw [if_neg h0, if_pos (.inr h2)]
        have e2 : joinW s i n nm = s := by unfold joinW; rw [e1]; rfl
        have d2 : decide (100 < n) = true := decide_eq_true h2
        rw [e1, e2]
        clear e1 e2 h
        go_enter Tryd.func57, Tryd.ntmps57
        go_wp2_with fail
        go_ret
        exact ⟨rfl, HK.out⟩
      · have d2 : decide (100 < n) = false := decide_eq_false h2
        obtain ⟨am, cm, al, cl, hf⟩ := h
        have hf1 := hf.alloc (.cells #[.int .i64 k, .int .i64 n, .string nm, .string to] 68)
        obtain ⟨c0, -, -, f0, -⟩ := hf1.hall (H := H) (vm := .slice am s.M.length cm) (vl := .slice al s.L.length cl) (by simp [hallE])
        by_cases h3 : s.M.length = 8
        · have e1 : joinE s i n = 9 := by unfold joinE; rw [if_neg h0, if_neg (by omega), if_pos h3]
          have e2 : joinW s i n nm = s := by unfold joinW; rw [e1]; rfl
          rw [h3] at c0
          rw [e1, e2]
          clear e1 e2
          go_enter Tryd.func57, Tryd.ntmps57
          go_wp2_with fail
          go_ret
          exact ⟨rfl, HK.out⟩
        · have e1 : joinE s i n = 0 := by unfold joinE; rw [if_neg h0, if_neg (by omega), if_neg h3]
          have e2 : joinW s i n nm = ⟨s.M ++ [⟨nm, n, 0⟩], s.L⟩ := by unfold joinW; rw [if_pos e1]
          rw [e1, e2]
          have z : ((s.M.length : Int) == 8) = false := by rw [beq_eq_false_iff_ne]; omega
          obtain ⟨N, hN⟩ : ∃ N, w.heap.size = N := ⟨_, rfl⟩
          have hNW : N < (w.alloc (.cells #[.int .i64 k, .int .i64 n, .string nm, .string to] 68)).heap.size := by rw [← hN]; simp
          obtain ⟨-, -, hHW, -, -⟩ := hf1.hall (H := H) (vm := .slice am s.M.length cm) (vl := .slice al s.L.length cl) (by simp [hallE])
          have e3 : (w.alloc (.cells #[.int .i64 k, .int .i64 n, .string nm, .string to] 68)).cell? ⟨N, 1, .none⟩ = some (.int .i64 n) := by
            have := cell_new w #[.int .i64 k, .int .i64 n, .string nm, .string to] 68 1
            rw [hN] at this; exact this
          have e4 : (w.alloc (.cells #[.int .i64 k, .int .i64 n, .string nm, .string to] 68)).cell? ⟨N, 2, .none⟩ = some (.string nm) := by
            have := cell_new w #[.int .i64 k, .int .i64 n, .string nm, .string to] 68 2
            rw [hN] at this; exact this
          have hsw : Fg w0 _ (eM am cm s.M :: eH H (.slice am s.M.length cm) (.slice al s.L.length cl) :: eL al cl s.L :: B) := hf1.perm (.swap _ _ _)
          have HF : Hid (∀ W, w.alloc (.cells #[.int .i64 k, .int .i64 n, .string nm, .string to] 68) = W → Fg w0 W (eM am cm s.M :: eH H (.slice am s.M.length cm) (.slice al s.L.length cl) :: eL al cl s.L :: B)) := Lib.hid (fun W hW => by rw [← hW]; exact hsw)
          clear e1 e2 hf hf1 hsw
          go_enter Tryd.func57, Tryd.ntmps57
          go_wp2_with fail
          generalize hW : w.alloc (.cells #[.int .i64 k, .int .i64 n, .string nm, .string to] 68) = W at *
          have HW := Lib.hid (HF.out W rfl)
          have HKS : Hid (∀ w', Below W.heap.size W w' → w'.cell? ⟨H, 0, .none⟩ = some (.slice am s.M.length cm) ∧ w'.cell? ⟨N, 1, .none⟩ = some (.int .i64 n) ∧ w'.cell? ⟨N, 2, .none⟩ = some (.string nm)) := Lib.hid fun w' hB => ⟨(hB.cell (p := ⟨H, 0, .none⟩) hHW).trans c0, (hB.cell (p := ⟨N, 1, .none⟩) hNW).trans e3, (hB.cell (p := ⟨N, 2, .none⟩) hNW).trans e4⟩
          have HSS := Lib.hid (HKS.out W (Below.refl _ _))
          have HF3 := Lib.hid (HW.out.alloc (.cells #[.string nm, .int .i64 n, .int .i64 0] 65))
          have HCN : Hid (∀ (j : Nat) (u : Value), (memC ⟨nm, n, 0⟩)[j]? = some u → (W.alloc (.cells #[.string nm, .int .i64 n, .int .i64 0] 65)).drew.cell? ⟨W.heap.size, j, .none⟩ = some u) := Lib.hid fun j u hj => by
            have := cell_new W #[.string nm, .int .i64 n, .int .i64 0] 65 j
            rw [Nat.zero_add] at this
            show (W.alloc (.cells #[.string nm, .int .i64 n, .int .i64 0] 65)).cell? _ = _
            rw [this, ← Array.getElem?_toList]; exact hj
          clear c0 f0 e3 e4 HF
          refine wp_region_U [11] (fun w' : World => w'.cell? ⟨H, 0, .none⟩ = some (.slice am s.M.length cm) ∧ w'.cell? ⟨N, 1, .none⟩ = some (.int .i64 n) ∧ w'.cell? ⟨N, 2, .none⟩ = some (.string nm)) (by kernel_rfl) ?_
          have hSd : (fun w' : World => w'.cell? ⟨H, 0, .none⟩ = some (.slice am s.M.length cm) ∧ w'.cell? ⟨N, 1, .none⟩ = some (.int .i64 n) ∧ w'.cell? ⟨N, 2, .none⟩ = some (.string nm)) W.drew := HSS.out
          refine wpAnyU_takeY (i := 0) (v := ?_) rfl (by kernel_rfl) (by kernel_rfl) (by kernel_rfl) (by kernel_rfl) (fun _ _ _ h => h) (Or.inl ⟨by rfl, ?_⟩) (by assumption) ?_
          rotate_left
          · intro w _; go_simp; try with_reducible rfl
          try simp only [Act.put]
          try simp only [List.setIfInBounds_toArray]
          try simp only [List.set_cons_succ]
          try simp only [List.set_cons_zero]
          refine wpAnyU_takeY (i := 1) (v := ?_) rfl (by kernel_rfl) (by kernel_rfl) (by kernel_rfl) (by kernel_rfl) (fun _ _ _ h => h) (Or.inl ⟨by rfl, ?_⟩) (by assumption) ?_
          rotate_left
          · intro w _; go_simp; try with_reducible rfl
          try simp only [Act.put]
          try simp only [List.setIfInBounds_toArray]
          try simp only [List.set_cons_succ]
          try simp only [List.set_cons_zero]
          refine wpAnyU_takeY (i := 2) (v := ?_) rfl (by kernel_rfl) (by kernel_rfl) (by kernel_rfl) (by kernel_rfl) (fun _ _ _ h => h) (Or.inl ⟨by rfl, ?_⟩) (by assumption) ?_
          rotate_left
          · intro w _; go_simp; try with_reducible rfl
          try simp only [Act.put]
          try simp only [List.setIfInBounds_toArray]
          try simp only [List.set_cons_succ]
          try simp only [List.set_cons_zero]
          refine wpAnyU_takeY (i := 3) (v := ?_) rfl (by kernel_rfl) (by kernel_rfl) (by kernel_rfl) (by kernel_rfl) (fun _ _ _ h => h) (Or.inl ⟨by rfl, ?_⟩) (by assumption) ?_
          rotate_left
          · intro w _; go_simp; try with_reducible rfl
          try simp only [Act.put]
          try simp only [List.setIfInBounds_toArray]
          try simp only [List.set_cons_succ]
          try simp only [List.set_cons_zero]
          refine wpAnyU_take (i := 4) (v := ?_) rfl (by kernel_rfl) (by kernel_rfl) (by kernel_rfl) (by kernel_rfl) (by kernel_rfl) (by kernel_rfl) (fun _ _ _ h => h) (Or.inl ⟨by rfl, ?_⟩) (by assumption) ?_
          rotate_left
          · intro w hSw; obtain ⟨s1, s2, s3⟩ := hSw; go_simp; try with_reducible rfl
          try simp only [Act.put]
          try simp only [List.setIfInBounds_toArray]
          try simp only [List.set_cons_succ]
          try simp only [List.set_cons_zero]
          refine wpAnyU_takeY (i := 5) (v := ?_) rfl (by kernel_rfl) (by kernel_rfl) (by kernel_rfl) (by kernel_rfl) (fun _ _ _ h => h) (Or.inl ⟨by rfl, ?_⟩) (by assumption) ?_
          rotate_left
          · intro w _; go_simp; try with_reducible rfl
          try simp only [Act.put]
          try simp only [List.setIfInBounds_toArray]
          try simp only [List.set_cons_succ]
          try simp only [List.set_cons_zero]
          refine wpAnyU_take (i := 6) (v := ?_) rfl (by kernel_rfl) (by kernel_rfl) (by kernel_rfl) (by kernel_rfl) (by kernel_rfl) (by kernel_rfl) (fun _ _ _ h => h) (Or.inl ⟨by rfl, ?_⟩) (by assumption) ?_
          rotate_left
          · intro w hSw; obtain ⟨s1, s2, s3⟩ := hSw; go_simp; try with_reducible rfl
          try simp only [Act.put]
          try simp only [List.setIfInBounds_toArray]
          try simp only [List.set_cons_succ]
          try simp only [List.set_cons_zero]
          refine wpAnyU_takeY (i := 7) (v := ?_) rfl (by kernel_rfl) (by kernel_rfl) (by kernel_rfl) (by kernel_rfl) (fun _ _ _ h => h) (Or.inl ⟨by rfl, ?_⟩) (by assumption) ?_
          rotate_left
          · intro w _; go_simp; try with_reducible rfl
          try simp only [Act.put]
          try simp only [List.setIfInBounds_toArray]
          try simp only [List.set_cons_succ]
          try simp only [List.set_cons_zero]
          refine wpAnyU_take (i := 8) (v := ?_) rfl (by kernel_rfl) (by kernel_rfl) (by kernel_rfl) (by kernel_rfl) (by kernel_rfl) (by kernel_rfl) (fun _ _ _ h => h) (Or.inl ⟨by rfl, ?_⟩) (by assumption) ?_
          rotate_left
          · intro w hSw; obtain ⟨s1, s2, s3⟩ := hSw; go_simp; try with_reducible rfl
          try simp only [Act.put]
          try simp only [List.setIfInBounds_toArray]
          try simp only [List.set_cons_succ]
          try simp only [List.set_cons_zero]
          refine wpAnyU_takeY (i := 9) (v := ?_) rfl (by kernel_rfl) (by kernel_rfl) (by kernel_rfl) (by kernel_rfl) (fun _ _ _ h => h) (Or.inl ⟨by rfl, ?_⟩) (by assumption) ?_
          rotate_left
          · intro w _; go_simp; try with_reducible rfl
          try simp only [Act.put]
          try simp only [List.setIfInBounds_toArray]
          try simp only [List.set_cons_succ]
          try simp only [List.set_cons_zero]
          refine wpAnyU_ready (rs := [10]) (by kernel_rfl) (by simp) ?_
          refine AllReadyU.cons rfl (fun K hK => ?_) AllReadyU.nil
          go_simp
          refine hK.out _ _ (fun _ => HKS.out _ (kin_alloc (Below.refl _ _) _).drew) ?_
          clear hK K
          try simp only [Act.put]
          try simp only [List.setIfInBounds_toArray]
          try simp only [List.set_cons_succ]
          try simp only [List.set_cons_zero]
          refine wpAnyU_ready (rs := [11]) (by kernel_rfl) (by simp) ?_
          refine AllReadyU.cons rfl (fun K hK => ?_) AllReadyU.nil
          refine step_pushG rfl (.tmp 27) (.tmp 33) 40 65 (.agg #[.string ByteArray.empty, .int .i64 0, .int .i64 0]) 3 32 Tryd.underlying40 memInfo rfl (by omega) (by omega) (by rfl) am s.M.length cm W.heap.size (rowsC memC s.M) (memC ⟨nm, n, 0⟩) (eH H (.slice am s.M.length cm) (.slice al s.L.length cl) :: eL al cl s.L :: B) (by rfl) HF3.out.drew (by rfl) HCN.out rfl (by simp [memC, Value.oneCell']) (by omega) ?_
          intro ad' cp' w5 hf hsz
          obtain ⟨q0, -, -, z0, -⟩ := hf.hall (H := H) (vm := .slice am s.M.length cm) (vl := .slice al s.L.length cl) (by simp)
          have HF5 := Lib.hid hf
          clear hf hsz
          refine hK.out _ _ (fun h => absurd h (by decide +kernel)) ?_
          clear hK K
          try simp only [Act.put]
          try simp only [List.setIfInBounds_toArray]
          try simp only [List.set_cons_succ]
          try simp only [List.set_cons_zero]
          refine wpAnyU_ready (rs := [12]) (by kernel_rfl) (by simp) ?_
          refine AllReadyU.cons rfl (fun K hK => ?_) AllReadyU.nil
          go_simp
          refine hK.out _ _ (fun h => absurd h (by decide +kernel)) ?_
          clear hK K
          try simp only [Act.put]
          try simp only [List.setIfInBounds_toArray]
          try simp only [List.set_cons_succ]
          try simp only [List.set_cons_zero]
          refine wpAnyU_ready (rs := [13]) (by kernel_rfl) (by simp) ?_
          refine AllReadyU.cons rfl (fun K hK => ?_) AllReadyU.nil
          go_simp
          refine hK.out _ _ (fun h => absurd h (by decide +kernel)) ?_
          clear hK K
          try simp only [Act.put]
          try simp only [List.setIfInBounds_toArray]
          try simp only [List.set_cons_succ]
          try simp only [List.set_cons_zero]
          refine wpAnyU_ready (rs := [14]) (by kernel_rfl) (by simp) ?_
          refine AllReadyU.cons rfl (fun K hK => ?_) AllReadyU.nil
          go_simp
          refine hK.out _ _ (fun h => absurd h (by decide +kernel)) ?_
          clear hK K
          try simp only [Act.put]
          try simp only [List.setIfInBounds_toArray]
          try simp only [List.set_cons_succ]
          try simp only [List.set_cons_zero]
          refine wpAnyU_done (by kernel_rfl) ?_ _
          go_wp2_with fail
          go_ret
          refine ⟨rfl, ad', cp', al, cl, ?_⟩
          have h5 : Fg w0 w5 ([⟨65, 3, s.M.length + 1, .slice ad' (s.M.length + 1) cp', rowsC memC s.M ++ memC ⟨nm, n, 0⟩⟩] ++ eH H (.slice am s.M.length cm) (.slice al s.L.length cl) :: (eL al cl s.L :: B)) := HF5.out
          have h6 := h5.setIn 0 (.slice ad' (s.M.length + 1) cp')
          unfold hallE eM
          simp only [List.length_append, List.length_cons, List.length_nil, Nat.zero_add]
          rw [rowsC_app, rowsC_one]
          exact h6.perm (.swap _ _ _)
end Go.Proofs.YtbolgfiafbhicaaDoor
