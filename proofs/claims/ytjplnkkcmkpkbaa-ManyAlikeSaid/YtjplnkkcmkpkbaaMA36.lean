/- Several of my texts in one: PushG, Hal5. -/
import Derived.Test.YtjplnkkcmkpkbaaMA30
import Derived.Test.YtjplnkkcmkpkbaaMA35
import Derived.Deep.AppendLies
import Derived.Test.YtjplnkkcmkpkbaaMA34
set_option linter.unusedSimpArgs false
set_option linter.unusedVariables false
/- Append of one element of any number of cells in a region that draws. -/
namespace Go.Proofs.Ytjplnkkcmkpkbaa
open Go.RowKit

theorem step_pushG {ops : Array Oper} {o : Oper} {a : Act} {K : Act → World → Prop} {Q : Exit → Act → World → Prop} {E : Prop} {w0 w : World} (hgd : o.guard = .none) (s x : Operand) (S T : TypeId) (z : Value) (c bytes : Nat)
    (hS : Try.prog.underlying S = some (.slice T)) (hT : (Try.prog.info? T).map (fun i => (i.zero, i.size, i.bytes)) = some (some z, c, bytes)) (hz : z.cells.size = c) (hc : 0 < c) (hby : 0 < bytes)
    (ho : o.op = .call { callee := .builtin .append, args := #[s, x], argTypes := #[S, S] })
    (ad : Option Addr) (n cap b : Nat) (xs ys : List Value) (B : List Big) (hs : a.eval s = .slice ad n cap) (hF : Fg w0 w (⟨T, c, n, .slice ad n cap, xs⟩ :: B))
    (hx : a.eval x = .slice (some ⟨b, 0, .none⟩) 1 1) (hC : ∀ (j : Nat) (u : Value), ys[j]? = some u → w.cell? ⟨b, j, .none⟩ = some u) (hy : ys.length = c) (h1 : ∀ u ∈ ys, u.oneCell' = true) (hlen : (n + 1) * bytes ≤ 140737488355328)
    (h : ∀ ad' cap' w', Fg w0 w' (⟨T, c, n + 1, .slice ad' (n + 1) cap', xs ++ ys⟩ :: B) → w.heap.size ≤ w'.heap.size → K (a.put o.dst (.slice ad' (n + 1) cap')) w') :
    if Region.wanted o (yielded ops a.tmps) = true then Oper.wp Try.prog o a w K Q else E := by
  obtain ⟨i0, hi, hz0, hz1, hz2⟩ := info_parts hT
  have hO : w.ownsRow w0.heap.size T c (.slice ad n cap) n xs := hF.own _ List.mem_cons_self
  refine step_append_lies w hgd s x S ho w0.heap.size T i0 z c bytes hS hi hz0 hz1 hz2 hz hc (.slice ad n cap) n xs hs hO
    ⟨b, 0, .none⟩ 1 1 ys hx (by rw [hy, Nat.one_mul]) ?_ h1 (by decide) ?_ hlen hF.bel.size w.heap.size rfl ?_
  · intro j u hj
    rw [show ((⟨b, 0, .none⟩ : Addr).add j) = ⟨b, j, .none⟩ from by unfold Addr.add; split <;> simp_all]
    exact hC j u hj
  · have : n + 1 ≤ (n + 1) * bytes := Nat.le_mul_of_pos_right _ hby
    unfold maxLen; omega
  · intro g cap' w' h2 h3 hat hg
    have hsz := h3.size
    have hb0 := hF.bel.size
    have hf := List.pairwise_cons.1 hF.far
    refine h (some ⟨g, 0, .none⟩) cap' w' ⟨?_, fun e he => ?_, List.pairwise_cons.2 ⟨fun e hb => ?_, hf.2⟩⟩ (by omega)
    · refine Below.grown (row := (Value.slice ad n cap).ownBlock) hF.bel h3 (by omega) ?_
      intro k hk
      exact (World.ownsRow.lt hO k hk).1
    · rcases List.mem_cons.1 he with rfl | he
      · exact h2
      · exact Big.kept (hF.own e (List.mem_cons_of_mem _ he)) h3 (hf.1 e he).symm (ownsRow_notMap hO)
    · have hbf := hf.1 e hb
      have hlt := Big.lt (hF.own e (List.mem_cons_of_mem _ hb))
      rcases hat with hat | hat
      · rcases hbf with hbf | hbf
        · rw [show (⟨T, c, n, Value.slice ad n cap, xs⟩ : Big).v.ownBlock = some g from hat] at hbf; cases hbf
        · exact .inr (show (Value.slice (some ⟨g, 0, .none⟩) (n + 1) cap').ownBlock ≠ _ by rw [show (Value.slice (some ⟨g, 0, .none⟩) (n + 1) cap').ownBlock = some g from rfl, ← hat]; exact hbf)
      · refine .inr (show (Value.slice (some ⟨g, 0, .none⟩) (n + 1) cap').ownBlock ≠ _ from ?_)
        rw [show (Value.slice (some ⟨g, 0, .none⟩) (n + 1) cap').ownBlock = some g from rfl, hat]
        intro e
        have := (hlt _ e.symm).2
        omega
end Go.Proofs.Ytjplnkkcmkpkbaa
/- Contract of join. -/
namespace Go.Proofs.Ytjplnkkcmkpkbaa
open Go.RowKit

theorem memInfo : (Try.prog.info? 90).map (fun i => (i.zero, i.size, i.bytes)) = some (some (.agg #[.string ByteArray.empty, .int .i64 0, .int .i64 0]), 3, 32) := by kernel_rfl
theorem loanInfo : (Try.prog.info? 106).map (fun i => (i.zero, i.size, i.bytes)) = some (some (.agg #[.string ByteArray.empty, .string ByteArray.empty, .int .i64 0]), 3, 40) := by kernel_rfl
def ErrW (w0 : World) (H : Nat) (s : HSt) (B : List Big) (er : Int) (e : Ending) (w' : World) : Prop := e = .returned (.int .i64 er) ∧ Hw w0 w' H s B
def joinE (s : HSt) (i n : Int) : Int := if 0 ≤ i then 8 else if n < 0 ∨ 100 < n then 1 else if s.M.length = 8 then 9 else 0
def joinW (s : HSt) (i n : Int) (nm : ByteArray) : HSt := if joinE s i n = 0 then ⟨s.M ++ [⟨nm, n, 0⟩], s.L⟩ else s
theorem Hw.keep {w0 w w' : World} {H : Nat} {s : HSt} {B : List Big} (h : Hw w0 w H s B) (b : Below w.heap.size w w') : Hw w0 w' H s B := by
  obtain ⟨am, cm, al, cl, hf⟩ := h
  exact ⟨am, cm, al, cl, hf.keep b⟩
set_option maxRecDepth 100000 in
set_option maxHeartbeats 8000000 in
theorem halJoin {w0 w : World} (H : Nat) (s : HSt) (B : List Big) (i k n : Int) (nm to : ByteArray) (h : Hw w0 w H s B) (h8 : s.M.length ≤ 8) :
    Calls Try.prog 44 #[.pointer (some ⟨H, 0, .none⟩), .int .i64 i, .agg #[.int .i64 k, .int .i64 n, .string nm, .string to]] w (ErrW w0 H (joinW s i n nm) B (joinE s i n)) := by
  have HK := Lib.hid (h.keep ((Fr.start w).alloc (.cells #[.int .i64 k, .int .i64 n, .string nm, .string to] 28)).bel)
  by_cases h0 : 0 ≤ i
  · have e1 : joinE s i n = 8 := by unfold joinE; rw [if_pos h0]
    have e2 : joinW s i n nm = s := by unfold joinW; rw [e1]; rfl
    have d0 : decide (0 ≤ i) = true := decide_eq_true h0
    rw [e1, e2]
    clear e1 e2 h
    go_enter Try.func44, Try.ntmps44
    go_wp2_with fail
    go_ret
    exact ⟨rfl, HK.out⟩
  · have d0 : decide (0 ≤ i) = false := decide_eq_false h0
    by_cases h1 : n < 0
    · have e1 : joinE s i n = 1 := by unfold joinE; rw [if_neg h0, if_pos (.inl h1)]
      have e2 : joinW s i n nm = s := by unfold joinW; rw [e1]; rfl
      have d1 : decide (n < 0) = true := decide_eq_true h1
      rw [e1, e2]
      clear e1 e2 h
      go_enter Try.func44, Try.ntmps44
      go_wp2_with fail
      go_ret
      exact ⟨rfl, HK.out⟩
    · have d1 : decide (n < 0) = false := decide_eq_false h1
      by_cases h2 : 100 < n
      · have e1 : joinE s i n = 1 := by unfold joinE; rw [if_neg h0, if_pos (.inr h2)]
        have e2 : joinW s i n nm = s := by unfold joinW; rw [e1]; rfl
        have d2 : decide (100 < n) = true := decide_eq_true h2
        rw [e1, e2]
        clear e1 e2 h
        go_enter Try.func44, Try.ntmps44
        go_wp2_with fail
        go_ret
        exact ⟨rfl, HK.out⟩
      · have d2 : decide (100 < n) = false := decide_eq_false h2
        obtain ⟨am, cm, al, cl, hf⟩ := h
        have hf1 := hf.alloc (.cells #[.int .i64 k, .int .i64 n, .string nm, .string to] 28)
        obtain ⟨c0, -, -, f0, -⟩ := hf1.hall (H := H) (vm := .slice am s.M.length cm) (vl := .slice al s.L.length cl) (by simp [hallE])
        by_cases h3 : s.M.length = 8
        · have e1 : joinE s i n = 9 := by unfold joinE; rw [if_neg h0, if_neg (by omega), if_pos h3]
          have e2 : joinW s i n nm = s := by unfold joinW; rw [e1]; rfl
          rw [h3] at c0
          rw [e1, e2]
          clear e1 e2
          go_enter Try.func44, Try.ntmps44
          go_wp2_with fail
          go_ret
          exact ⟨rfl, HK.out⟩
        · have e1 : joinE s i n = 0 := by unfold joinE; rw [if_neg h0, if_neg (by omega), if_neg h3]
          have e2 : joinW s i n nm = ⟨s.M ++ [⟨nm, n, 0⟩], s.L⟩ := by unfold joinW; rw [if_pos e1]
          rw [e1, e2]
          have z : ((s.M.length : Int) == 8) = false := by rw [beq_eq_false_iff_ne]; omega
          obtain ⟨N, hN⟩ : ∃ N, w.heap.size = N := ⟨_, rfl⟩
          have hNW : N < (w.alloc (.cells #[.int .i64 k, .int .i64 n, .string nm, .string to] 28)).heap.size := by rw [← hN]; simp
          obtain ⟨-, -, hHW, -, -⟩ := hf1.hall (H := H) (vm := .slice am s.M.length cm) (vl := .slice al s.L.length cl) (by simp [hallE])
          have e3 : (w.alloc (.cells #[.int .i64 k, .int .i64 n, .string nm, .string to] 28)).cell? ⟨N, 1, .none⟩ = some (.int .i64 n) := by
            have := cell_new w #[.int .i64 k, .int .i64 n, .string nm, .string to] 28 1
            rw [hN] at this; exact this
          have e4 : (w.alloc (.cells #[.int .i64 k, .int .i64 n, .string nm, .string to] 28)).cell? ⟨N, 2, .none⟩ = some (.string nm) := by
            have := cell_new w #[.int .i64 k, .int .i64 n, .string nm, .string to] 28 2
            rw [hN] at this; exact this
          have hsw : Fg w0 _ (eM am cm s.M :: eH H (.slice am s.M.length cm) (.slice al s.L.length cl) :: eL al cl s.L :: B) := hf1.perm (.swap _ _ _)
          have HF : Hid (∀ W, w.alloc (.cells #[.int .i64 k, .int .i64 n, .string nm, .string to] 28) = W → Fg w0 W (eM am cm s.M :: eH H (.slice am s.M.length cm) (.slice al s.L.length cl) :: eL al cl s.L :: B)) := Lib.hid (fun W hW => by rw [← hW]; exact hsw)
          clear e1 e2 hf hf1 hsw
          go_enter Try.func44, Try.ntmps44
          go_wp2_with fail
          generalize hW : w.alloc (.cells #[.int .i64 k, .int .i64 n, .string nm, .string to] 28) = W at *
          have HW := Lib.hid (HF.out W rfl)
          have HKS : Hid (∀ w', Below W.heap.size W w' → w'.cell? ⟨H, 0, .none⟩ = some (.slice am s.M.length cm) ∧ w'.cell? ⟨N, 1, .none⟩ = some (.int .i64 n) ∧ w'.cell? ⟨N, 2, .none⟩ = some (.string nm)) := Lib.hid fun w' hB => ⟨(hB.cell (p := ⟨H, 0, .none⟩) hHW).trans c0, (hB.cell (p := ⟨N, 1, .none⟩) hNW).trans e3, (hB.cell (p := ⟨N, 2, .none⟩) hNW).trans e4⟩
          have HSS := Lib.hid (HKS.out W (Below.refl _ _))
          have HF3 := Lib.hid (HW.out.alloc (.cells #[.string nm, .int .i64 n, .int .i64 0] 90))
          have HCN : Hid (∀ (j : Nat) (u : Value), (memC ⟨nm, n, 0⟩)[j]? = some u → (W.alloc (.cells #[.string nm, .int .i64 n, .int .i64 0] 90)).drew.cell? ⟨W.heap.size, j, .none⟩ = some u) := Lib.hid fun j u hj => by
            have := cell_new W #[.string nm, .int .i64 n, .int .i64 0] 90 j
            rw [Nat.zero_add] at this
            show (W.alloc (.cells #[.string nm, .int .i64 n, .int .i64 0] 90)).cell? _ = _
            rw [this, ← Array.getElem?_toList]; exact hj
          clear c0 f0 e3 e4 HF
          refine wp_region_U [11] (fun w' : World => w'.cell? ⟨H, 0, .none⟩ = some (.slice am s.M.length cm) ∧ w'.cell? ⟨N, 1, .none⟩ = some (.int .i64 n) ∧ w'.cell? ⟨N, 2, .none⟩ = some (.string nm)) (by kernel_rfl) ?_
          have hSd : (fun w' : World => w'.cell? ⟨H, 0, .none⟩ = some (.slice am s.M.length cm) ∧ w'.cell? ⟨N, 1, .none⟩ = some (.int .i64 n) ∧ w'.cell? ⟨N, 2, .none⟩ = some (.string nm)) W.drew := HSS.out
          refine wpAnyU_takeY (i := 0) (v := ?_) rfl (by kernel_rfl) (by kernel_rfl) (by kernel_rfl) (by kernel_rfl) (fun _ _ _ h => h) (Or.inl ⟨by rfl, ?_⟩) (by assumption) ?_
          rotate_left
          · intro w _; go_simp; try with_reducible rfl
          try simp only [Act.put]
          try simp only [List.setIfInBounds_toArray]
          try simp only [List.set_cons_succ]
          try simp only [List.set_cons_zero]
          refine wpAnyU_takeY (i := 1) (v := ?_) rfl (by kernel_rfl) (by kernel_rfl) (by kernel_rfl) (by kernel_rfl) (fun _ _ _ h => h) (Or.inl ⟨by rfl, ?_⟩) (by assumption) ?_
          rotate_left
          · intro w _; go_simp; try with_reducible rfl
          try simp only [Act.put]
          try simp only [List.setIfInBounds_toArray]
          try simp only [List.set_cons_succ]
          try simp only [List.set_cons_zero]
          refine wpAnyU_takeY (i := 2) (v := ?_) rfl (by kernel_rfl) (by kernel_rfl) (by kernel_rfl) (by kernel_rfl) (fun _ _ _ h => h) (Or.inl ⟨by rfl, ?_⟩) (by assumption) ?_
          rotate_left
          · intro w _; go_simp; try with_reducible rfl
          try simp only [Act.put]
          try simp only [List.setIfInBounds_toArray]
          try simp only [List.set_cons_succ]
          try simp only [List.set_cons_zero]
          refine wpAnyU_takeY (i := 3) (v := ?_) rfl (by kernel_rfl) (by kernel_rfl) (by kernel_rfl) (by kernel_rfl) (fun _ _ _ h => h) (Or.inl ⟨by rfl, ?_⟩) (by assumption) ?_
          rotate_left
          · intro w _; go_simp; try with_reducible rfl
          try simp only [Act.put]
          try simp only [List.setIfInBounds_toArray]
          try simp only [List.set_cons_succ]
          try simp only [List.set_cons_zero]
          refine wpAnyU_take (i := 4) (v := ?_) rfl (by kernel_rfl) (by kernel_rfl) (by kernel_rfl) (by kernel_rfl) (by kernel_rfl) (by kernel_rfl) (fun _ _ _ h => h) (Or.inl ⟨by rfl, ?_⟩) (by assumption) ?_
          rotate_left
          · intro w hSw; obtain ⟨s1, s2, s3⟩ := hSw; go_simp; try with_reducible rfl
          try simp only [Act.put]
          try simp only [List.setIfInBounds_toArray]
          try simp only [List.set_cons_succ]
          try simp only [List.set_cons_zero]
          refine wpAnyU_takeY (i := 5) (v := ?_) rfl (by kernel_rfl) (by kernel_rfl) (by kernel_rfl) (by kernel_rfl) (fun _ _ _ h => h) (Or.inl ⟨by rfl, ?_⟩) (by assumption) ?_
          rotate_left
          · intro w _; go_simp; try with_reducible rfl
          try simp only [Act.put]
          try simp only [List.setIfInBounds_toArray]
          try simp only [List.set_cons_succ]
          try simp only [List.set_cons_zero]
          refine wpAnyU_take (i := 6) (v := ?_) rfl (by kernel_rfl) (by kernel_rfl) (by kernel_rfl) (by kernel_rfl) (by kernel_rfl) (by kernel_rfl) (fun _ _ _ h => h) (Or.inl ⟨by rfl, ?_⟩) (by assumption) ?_
          rotate_left
          · intro w hSw; obtain ⟨s1, s2, s3⟩ := hSw; go_simp; try with_reducible rfl
          try simp only [Act.put]
          try simp only [List.setIfInBounds_toArray]
          try simp only [List.set_cons_succ]
          try simp only [List.set_cons_zero]
          refine wpAnyU_takeY (i := 7) (v := ?_) rfl (by kernel_rfl) (by kernel_rfl) (by kernel_rfl) (by kernel_rfl) (fun _ _ _ h => h) (Or.inl ⟨by rfl, ?_⟩) (by assumption) ?_
          rotate_left
          · intro w _; go_simp; try with_reducible rfl
          try simp only [Act.put]
          try simp only [List.setIfInBounds_toArray]
          try simp only [List.set_cons_succ]
          try simp only [List.set_cons_zero]
          refine wpAnyU_take (i := 8) (v := ?_) rfl (by kernel_rfl) (by kernel_rfl) (by kernel_rfl) (by kernel_rfl) (by kernel_rfl) (by kernel_rfl) (fun _ _ _ h => h) (Or.inl ⟨by rfl, ?_⟩) (by assumption) ?_
          rotate_left
          · intro w hSw; obtain ⟨s1, s2, s3⟩ := hSw; go_simp; try with_reducible rfl
          try simp only [Act.put]
          try simp only [List.setIfInBounds_toArray]
          try simp only [List.set_cons_succ]
          try simp only [List.set_cons_zero]
          refine wpAnyU_takeY (i := 9) (v := ?_) rfl (by kernel_rfl) (by kernel_rfl) (by kernel_rfl) (by kernel_rfl) (fun _ _ _ h => h) (Or.inl ⟨by rfl, ?_⟩) (by assumption) ?_
          rotate_left
          · intro w _; go_simp; try with_reducible rfl
          try simp only [Act.put]
          try simp only [List.setIfInBounds_toArray]
          try simp only [List.set_cons_succ]
          try simp only [List.set_cons_zero]
          refine wpAnyU_ready (rs := [10]) (by kernel_rfl) (by simp) ?_
          refine AllReadyU.cons rfl (fun K hK => ?_) AllReadyU.nil
          go_simp
          refine hK.out _ _ (fun _ => HKS.out _ (kin_alloc (Below.refl _ _) _).drew) ?_
          clear hK K
          try simp only [Act.put]
          try simp only [List.setIfInBounds_toArray]
          try simp only [List.set_cons_succ]
          try simp only [List.set_cons_zero]
          refine wpAnyU_ready (rs := [11]) (by kernel_rfl) (by simp) ?_
          refine AllReadyU.cons rfl (fun K hK => ?_) AllReadyU.nil
          refine step_pushG rfl (.tmp 27) (.tmp 33) 80 90 (.agg #[.string ByteArray.empty, .int .i64 0, .int .i64 0]) 3 32 Try.underlying80 memInfo rfl (by omega) (by omega) (by rfl) am s.M.length cm W.heap.size (rowsC memC s.M) (memC ⟨nm, n, 0⟩) (eH H (.slice am s.M.length cm) (.slice al s.L.length cl) :: eL al cl s.L :: B) (by rfl) HF3.out.drew (by rfl) HCN.out rfl (by simp [memC, Value.oneCell']) (by omega) ?_
          intro ad' cp' w5 hf hsz
          obtain ⟨q0, -, -, z0, -⟩ := hf.hall (H := H) (vm := .slice am s.M.length cm) (vl := .slice al s.L.length cl) (by simp)
          have HF5 := Lib.hid hf
          clear hf hsz
          refine hK.out _ _ (fun h => absurd h (by decide +kernel)) ?_
          clear hK K
          try simp only [Act.put]
          try simp only [List.setIfInBounds_toArray]
          try simp only [List.set_cons_succ]
          try simp only [List.set_cons_zero]
          refine wpAnyU_ready (rs := [12]) (by kernel_rfl) (by simp) ?_
          refine AllReadyU.cons rfl (fun K hK => ?_) AllReadyU.nil
          go_simp
          refine hK.out _ _ (fun h => absurd h (by decide +kernel)) ?_
          clear hK K
          try simp only [Act.put]
          try simp only [List.setIfInBounds_toArray]
          try simp only [List.set_cons_succ]
          try simp only [List.set_cons_zero]
          refine wpAnyU_ready (rs := [13]) (by kernel_rfl) (by simp) ?_
          refine AllReadyU.cons rfl (fun K hK => ?_) AllReadyU.nil
          go_simp
          refine hK.out _ _ (fun h => absurd h (by decide +kernel)) ?_
          clear hK K
          try simp only [Act.put]
          try simp only [List.setIfInBounds_toArray]
          try simp only [List.set_cons_succ]
          try simp only [List.set_cons_zero]
          refine wpAnyU_ready (rs := [14]) (by kernel_rfl) (by simp) ?_
          refine AllReadyU.cons rfl (fun K hK => ?_) AllReadyU.nil
          go_simp
          refine hK.out _ _ (fun h => absurd h (by decide +kernel)) ?_
          clear hK K
          try simp only [Act.put]
          try simp only [List.setIfInBounds_toArray]
          try simp only [List.set_cons_succ]
          try simp only [List.set_cons_zero]
          refine wpAnyU_done (by kernel_rfl) ?_ _
          go_wp2_with fail
          go_ret
          refine ⟨rfl, ad', cp', al, cl, ?_⟩
          have h5 : Fg w0 w5 ([⟨90, 3, s.M.length + 1, .slice ad' (s.M.length + 1) cp', rowsC memC s.M ++ memC ⟨nm, n, 0⟩⟩] ++ eH H (.slice am s.M.length cm) (.slice al s.L.length cl) :: (eL al cl s.L :: B)) := HF5.out
          have h6 := h5.setIn 0 (.slice ad' (s.M.length + 1) cp')
          unfold hallE eM
          simp only [List.length_append, List.length_cons, List.length_nil, Nat.zero_add]
          rw [rowsC_app, rowsC_one]
          exact h6.perm (.swap _ _ _)
end Go.Proofs.Ytjplnkkcmkpkbaa
