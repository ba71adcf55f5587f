/- Several of my texts in one: TwoApp, GrayW, GrayN. -/
import Derived.Test.YtooghdnlaonkaaaRw27
import Derived.Test.YtooghdnlaonkaaaRw24
import Derived.Deep.AppendLies
import Derived.Test.YtooghdnlaonkaaaRw15
import Derived.Deep.RegionHeld3
/- Two appends in one statement: a frame of six entries whose places stay. -/
namespace Go.Proofs.Ytooghdnlaonkaaa
open Go.RowKit

/-- a step of a region that draws: append of one cell to the first of them, the cell being the second entry -/
theorem step_push {ops : Array Oper} {o : Oper} {a : Act} {K : Act → World → Prop} {Q : Exit → Act → World → Prop} {E : Prop} {w0 w : World} (hgd : o.guard = .none) (s x : Operand) (S T : TypeId) (z : Value) (bytes : Nat)
    (hS : Try.prog.underlying S = some (.slice T)) (hT : (Try.prog.info? T).map (fun i => (i.zero, i.size, i.bytes)) = some (some z, 1, bytes)) (hz : z.cells.size = 1) (hby : bytes ≤ 1000)
    (ho : o.op = .call { callee := .builtin .append, args := #[s, x], argTypes := #[S, S] })
    (ad : Option Addr) (n cap b : Nat) (xs : List Value) (y : Value) (L : List Ent) (hs : a.eval s = .slice ad n cap) (hF : Fr w0 w (⟨T, .slice ad n cap, xs⟩ :: ⟨T, .slice (some ⟨b, 0, .none⟩) 1 1, [y]⟩ :: L))
    (hx : a.eval x = .slice (some ⟨b, 0, .none⟩) 1 1) (hy : y.oneCell' = true) (hlen : n ≤ 1000000)
    (h : ∀ ad' cap' w', Fr w0 w' (⟨T, .slice ad' (n + 1) cap', xs ++ [y]⟩ :: ⟨T, .slice (some ⟨b, 0, .none⟩) 1 1, [y]⟩ :: L) → w.heap.size ≤ w'.heap.size → K (a.put o.dst (.slice ad' (n + 1) cap')) w') :
    if Region.wanted o (yielded ops a.tmps) = true then Oper.wp Try.prog o a w K Q else E := by
  obtain ⟨i0, hi, hz0, hz1, hz2⟩ := info_parts hT
  have hn := hF.len
  have hO := hF.os.own _ List.mem_cons_self
  have hC := hF.get 1 rfl
  subst hn
  refine step_append_lies w hgd s x S ho w0.heap.size T i0 z 1 bytes hS hi hz0 hz1 hz2 hz (by decide) (.slice ad xs.length cap) xs.length xs hs hO
    ⟨b, 0, .none⟩ 1 1 [y] hx rfl ?_ ?_ (by decide) ?_ ?_ hF.bel.size w.heap.size rfl ?_
  · intro j u hj
    obtain ⟨b', off, e, _, hc⟩ := hC.at j (List.getElem?_eq_some_iff.1 hj).1
    cases e
    rw [show ((⟨b, 0, .none⟩ : Addr).add j) = ⟨b, 0 + j, .none⟩ from by unfold Addr.add; split <;> simp_all, hc, hj]
  · intro u hu; simp at hu; subst hu; exact hy
  · unfold maxLen; omega
  · calc (xs.length + 1) * bytes ≤ 1000001 * 1000 := Nat.mul_le_mul (by omega) hby
      _ ≤ _ := by omega
  · intro g cap' w' h1 h2 hat hg
    have hsz := h2.size
    have hb0 := hF.bel.size
    refine h (some ⟨g, 0, .none⟩) cap' w' ⟨?_, ⟨fun e he => ?_, ?_⟩⟩ (by omega)
    · refine Below.grown (row := (Value.slice ad xs.length cap).ownBlock) hF.bel h2 (by omega) ?_
      intro k hk
      exact (Ent.own.lt hO k hk).1
    · rcases List.mem_cons.1 he with rfl | he
      · unfold Ent.own; simpa using h1
      · exact World.ownsRow.kept (hF.os.own e (List.mem_cons_of_mem _ he)) h2 ((List.pairwise_cons.1 hF.os.far).1 e he).symm
    · have hf := List.pairwise_cons.1 hF.os.far
      refine List.pairwise_cons.2 ⟨fun e hb => ?_, hf.2⟩
      have hbf := hf.1 e hb
      have hlt := Ent.own.lt (hF.os.own e (List.mem_cons_of_mem _ hb))
      rcases hat with hat | hat
      · rcases hbf with hbf | hbf
        · rw [show (⟨T, Value.slice ad xs.length cap, xs⟩ : Ent).v.ownBlock = some g from hat] at hbf; cases hbf
        · exact .inr (show (Value.slice (some ⟨g, 0, .none⟩) (xs.length + 1) cap').ownBlock ≠ _ by rw [show (Value.slice (some ⟨g, 0, .none⟩) (xs.length + 1) cap').ownBlock = some g from rfl, ← hat]; exact hbf)
      · refine .inr (show (Value.slice (some ⟨g, 0, .none⟩) (xs.length + 1) cap').ownBlock ≠ _ from ?_)
        rw [show (Value.slice (some ⟨g, 0, .none⟩) (xs.length + 1) cap').ownBlock = some g from rfl, hat]
        intro e
        have := (hlt _ e.symm).2
        omega
section
variable {w0 w : World} {V E1 U E2 : Ent} {R : List Ent}
theorem Fr.swap2 (h : Fr w0 w (V :: E1 :: U :: E2 :: R)) : Fr w0 w (U :: E2 :: V :: E1 :: R) :=
  h.perm (by
    have : ([V, E1] ++ [U, E2]).Perm ([U, E2] ++ [V, E1]) := List.perm_append_comm
    exact this.append_right R)
theorem Fr.build1 (h : Fr w0 w (V :: E1 :: U :: E2 :: R)) (T : TypeId) (y : Value) (N : Nat) (hN : w.heap.size = N) :
    Fr w0 (w.alloc (.cells #[y] T)) (V :: ⟨T, .slice (some ⟨N, 0, .none⟩) 1 1, [y]⟩ :: U :: E2 :: R) := by
  subst hN
  have h1 : Fr w0 w (V :: U :: E2 :: R) := h.sub (.cons_cons _ (List.sublist_cons_self _ _))
  exact (h1.new T #[y] [y] rfl 1 rfl (by omega)).swap
theorem Fr.build2 (h : Fr w0 w (V :: E1 :: U :: E2 :: R)) (T : TypeId) (y : Value) (N : Nat) (hN : w.heap.size = N) :
    Fr w0 (w.alloc (.cells #[y] T)) (V :: E1 :: U :: ⟨T, .slice (some ⟨N, 0, .none⟩) 1 1, [y]⟩ :: R) := (h.swap2.build1 T y N hN).swap2
/-- to and fro: the fifth to the front -/
theorem Fr.five {X : Ent} (h : Fr w0 w (V :: E1 :: U :: E2 :: X :: R)) : Fr w0 w (X :: V :: E1 :: U :: E2 :: R) := h.perm (by
  have : ([V, E1, U, E2] ++ [X]).Perm ([X] ++ [V, E1, U, E2]) := List.perm_append_comm
  exact this.append_right R)
theorem Fr.five' {X : Ent} (h : Fr w0 w (X :: V :: E1 :: U :: E2 :: R)) : Fr w0 w (V :: E1 :: U :: E2 :: X :: R) := h.perm (by
  have : ([X] ++ [V, E1, U, E2]).Perm ([V, E1, U, E2] ++ [X]) := List.perm_append_comm
  exact this.append_right R)
end
theorem Fr.reset {w0 w : World} {V E1 U E2 : Ent} {R : List Ent} (h : Fr w0 w (V :: E1 :: U :: E2 :: R)) (T T' : TypeId) : Fr w0 w (V :: ⟨T, .slice .none 0 0, []⟩ :: U :: ⟨T', .slice .none 0 0, []⟩ :: R) := by
  have h1 : Fr w0 w (V :: U :: R) := h.sub (.cons_cons _ (.cons _ (.cons_cons _ (List.sublist_cons_self _ _))))
  exact ((h1.swap.nilSlice T').swap.rot.nilSlice T).swap
theorem step_push2 {ops : Array Oper} {o : Oper} {a : Act} {K : Act → World → Prop} {Q : Exit → Act → World → Prop} {E : Prop} {w0 w : World} (hgd : o.guard = .none) (s x : Operand) (S T : TypeId) (z : Value) (bytes : Nat)
    (hS : Try.prog.underlying S = some (.slice T)) (hT : (Try.prog.info? T).map (fun i => (i.zero, i.size, i.bytes)) = some (some z, 1, bytes)) (hz : z.cells.size = 1) (hby : bytes ≤ 1000)
    (ho : o.op = .call { callee := .builtin .append, args := #[s, x], argTypes := #[S, S] })
    (ad : Option Addr) (n cap b : Nat) (xs : List Value) (y : Value) (V E1 : Ent) (R : List Ent) (hs : a.eval s = .slice ad n cap) (hF : Fr w0 w (V :: E1 :: ⟨T, .slice ad n cap, xs⟩ :: ⟨T, .slice (some ⟨b, 0, .none⟩) 1 1, [y]⟩ :: R))
    (hx : a.eval x = .slice (some ⟨b, 0, .none⟩) 1 1) (hy : y.oneCell' = true) (hlen : n ≤ 1000000)
    (h : ∀ ad' cap' w', Fr w0 w' (V :: E1 :: ⟨T, .slice ad' (n + 1) cap', xs ++ [y]⟩ :: ⟨T, .slice (some ⟨b, 0, .none⟩) 1 1, [y]⟩ :: R) → w.heap.size ≤ w'.heap.size → K (a.put o.dst (.slice ad' (n + 1) cap')) w') :
    if Region.wanted o (yielded ops a.tmps) = true then Oper.wp Try.prog o a w K Q else E :=
  step_push hgd s x S T z bytes hS hT hz hby ho ad n cap b xs y (V :: E1 :: R) hs hF.swap2 hx hy hlen fun ad' cap' w' h1 h2 => h ad' cap' w' h1.swap2 h2
end Go.Proofs.Ytooghdnlaonkaaa
/- Contract of gray.Walk. -/
namespace Go.Proofs.Ytooghdnlaonkaaa
open Go.RowKit

/-- the reflected code of k bits -/
def grayL : Nat → List Nat
  | 0 => [0]
  | k + 1 => grayL k ++ (grayL k).reverse.map (· ||| 2 ^ k)
theorem grayL_len : ∀ k, (grayL k).length = 2 ^ k
  | 0 => rfl
  | k + 1 => by rw [grayL, List.length_append, List.length_map, List.length_reverse, grayL_len k]; omega
theorem grayL_lt : ∀ k, ∀ x ∈ grayL k, x < 2 ^ k
  | 0, x, h => by simp [grayL] at h; omega
  | k + 1, x, h => by
    rw [grayL, List.mem_append] at h
    have := Nat.two_pow_pos k
    rcases h with h | h
    · have := grayL_lt k x h; omega
    · obtain ⟨y, hy, rfl⟩ := List.mem_map.1 h
      have h1 := grayL_lt k y (List.mem_reverse.1 hy)
      exact Nat.or_lt_two_pow (by omega) (by omega)
/-- with t of the reflected ones behind -/
def grayM (k t : Nat) : List Nat := grayL k ++ ((grayL k).reverse.map (· ||| 2 ^ k)).take t
theorem grayM_len (k t : Nat) (h : t ≤ 2 ^ k) : (grayM k t).length = 2 ^ k + t := by
  unfold grayM; rw [List.length_append, List.length_take, List.length_map, List.length_reverse, grayL_len]; omega
theorem grayM_step (k t : Nat) (h : t < 2 ^ k) : grayM k (t + 1) = grayM k t ++ [(grayL k).getD (2 ^ k - 1 - t) 0 ||| 2 ^ k] := by
  unfold grayM
  have hl := grayL_len k
  rw [List.take_add_one, ← List.append_assoc]
  congr 1
  rw [List.getElem?_map, List.getElem?_reverse (by omega), hl, List.getElem?_eq_getElem (by omega)]
  simp only [Option.map_some, Option.toList_some, List.getD_eq_getElem?_getD]
  rw [List.getElem?_eq_getElem (by omega)]; rfl
theorem grayM_all (k : Nat) : grayM k (2 ^ k) = grayL (k + 1) := by
  unfold grayM; rw [List.take_of_length_le (by rw [List.length_map, List.length_reverse, grayL_len]; omega)]; rfl
theorem grayM_get (k t i : Nat) (h : i < 2 ^ k) : (grayM k t).getD i 0 = (grayL k).getD i 0 := by
  unfold grayM
  rw [List.getD_eq_getElem?_getD, List.getElem?_append_left (by rw [grayL_len]; exact h), ← List.getD_eq_getElem?_getD]
theorem grayL_get_lt (k i : Nat) (h : i < 2 ^ k) : (grayL k).getD i 0 < 2 ^ k := by
  rw [List.getD_eq_getElem?_getD, List.getElem?_eq_getElem (by rw [grayL_len]; exact h)]
  exact grayL_lt k _ (List.getElem_mem _)
theorem u16or (a b : Nat) (ha : a < 65536) (hb : b < 65536) : bits .or .u16 (a : Int) (b : Int) = ((a ||| b : Nat) : Int) := Go.u16_or_nat a b ha hb
theorem shl16 : ∀ j : Nat, j < 16 → IntKind.u16.wrap (2 ^ j) = ((2 ^ j : Nat) : Int) := by decide
theorem hws_snoc (l : List Nat) (x : Nat) : hws l ++ [.int .u16 (x : Int)] = hws (l ++ [x]) := by simp [hws]

theorem u16Info : (Try.prog.info? 64).map (fun i => (i.zero, i.size, i.bytes)) = some (some (.int .u16 0), 1, 2) := by kernel_rfl
set_option maxRecDepth 100000 in
set_option maxHeartbeats 8000000 in
theorem grayWalk_any (n : Nat) (w : World) (hn : n ≤ 10) :
    Calls Try.prog 30 #[.int .i64 n] w fun e w' => ∃ ad cp, e = .returned (.tuple #[.slice ad (2 ^ n) cp, .int .i64 0]) ∧ Fr w w' [⟨64, .slice ad (2 ^ n) cp, hws (grayL n)⟩] := by
  have e1 : decide ((n : Int) < 0) = false := decide_eq_false (by omega)
  have e2 : decide ((10 : Int) < (n : Int)) = false := decide_eq_false (by omega)
  go_enter Try.func30, Try.ntmps30
  go_wp2_with fail
  have HF0 : Hid (Fr w (w.alloc (.cells #[.int .u16 0] 64)) [⟨64, .slice (some ⟨w.heap.size, 0, .none⟩) 1 1, hws (grayL 0)⟩]) := Lib.hid ((Fr.start w).new 64 #[.int .u16 0] (hws [0]) rfl 1 rfl (by omega))
  clear e1 e2
  go_loopw [4, 15] (fun s4 s15 wr => ∃ (k P : Nat) (ad : Option Addr) (cp : Nat), k ≤ n ∧ s15 = .int .i64 k ∧ s4 = .slice ad P cp ∧ Hid (2 ^ k = P) ∧ Hid (Fr w wr [⟨64, .slice ad P cp, hws (grayL k)⟩])) (fun _ s _ => n - (intOf s).toNat)
  case atStart => exact ⟨0, 1, _, 1, by omega, rfl, rfl, Lib.hid rfl, HF0⟩
  case round =>
    obtain ⟨k, P, ad, cp, hk, rfl, rfl, HP, HF⟩ := hrel
    by_cases hlt : k < n
    · have hP1 : 1 ≤ P := by rw [← HP.out]; exact Nat.two_pow_pos k
      have hP2 : P ≤ 512 := by rw [← HP.out]; exact Nat.pow_le_pow_right (n := 2) (by omega) (show k ≤ 9 by omega)
      have HF1 : Hid (Fr w wr [⟨64, .slice ad P cp, hws (grayM k 0)⟩]) := Lib.hid (by have := HF.out; unfold grayM; rw [List.take_zero, List.append_nil]; exact this)
      have HG := Lib.hid (grayL_get_lt k)
      have hsh := shl16 k (by omega)
      have HSH := Lib.hid hsh
      clear HF hsh
      go_wp2_with fail
      go_loopw [4, 6] (fun s4 s6 wr => ∃ (t : Nat) (i : Int) (ad : Option Addr) (cp : Nat), t ≤ P ∧ s6 = .int .i64 i ∧ s4 = .slice ad (P + t) cp ∧ Hid (i = (P : Int) - 1 - t) ∧ Hid (Fr w wr [⟨64, .slice ad (P + t) cp, hws (grayM k t)⟩])) (fun _ s _ => (intOf s + 1).toNat)
      case atStart => exact ⟨0, _, ad, cp, by omega, rfl, rfl, Lib.hid (by omega), HF1⟩
      case round =>
        obtain ⟨t, i, ad, cp, ht, rfl, rfl, HI, HF⟩ := hrel
        by_cases hlt2 : t < P
        · obtain ⟨r, hr⟩ : ∃ r : Nat, P = t + 1 + r := ⟨P - 1 - t, by omega⟩
          have hi : i = (r : Int) := by have := HI.out; omega
          subst hi
          have hst := grayM_step k t (by rw [HP.out]; exact hlt2)
          rw [HP.out, show P - 1 - t = r by omega] at hst
          have hx := HG.out r (by rw [HP.out]; omega)
          rw [HP.out] at hx
          have hcl := hws_get (grayM k t) r (by rw [grayM_len k t (by rw [HP.out]; exact ht), HP.out]; omega)
          rw [grayM_get k t r (by rw [HP.out]; omega)] at hcl
          obtain ⟨x, hx2⟩ : ∃ x, (grayL k).getD r 0 = x := ⟨_, rfl⟩
          rw [hx2] at hst hx hcl
          have hor := u16or x P (by omega) (by omega)
          have HST := Lib.hid hst
          have HR := Lib.hid hr
          have hg := HF.out.open (by rw [hws_len, grayM_len k t (by rw [HP.out]; exact ht), HP.out]; omega)
          obtain ⟨g, rfl, -, -, hcells, -⟩ := hg
          have hc := hcells r (by rw [hws_len, grayM_len k t (by rw [HP.out]; exact ht), HP.out]; omega)
          rw [hcl] at hc
          have hsh : IntKind.u16.wrap (2 ^ k) = (P : Int) := by rw [HSH.out, HP.out]
          have d1 : (0 : Int) ≤ (r : Int) := by omega
          have d2 : (r : Int) < (P : Int) + (t : Int) := by omega
          have hB : P + t ≤ 1000000 := by omega
          have hk9 : (k : Int) < 16 := by omega
          clear hst hr hcells hx2 hcl hx
          go_wp2_with fail
          refine wp_region_U [8] (fun w' : World => w'.cell? ⟨g, r, .none⟩ = some (.int .u16 (x : Int))) (by kernel_rfl) ?_
          have hSd : (fun w' : World => w'.cell? ⟨g, r, .none⟩ = some (.int .u16 (x : Int))) wr.drew := hc
          refine wpAnyU_takeY (i := 0) (v := ?_) rfl (by kernel_rfl) (by kernel_rfl) (by kernel_rfl) (by kernel_rfl) (fun _ _ _ h => h) (Or.inl ⟨by rfl, ?_⟩) (by assumption) ?_
          rotate_left
          · intro w _; go_simp; try with_reducible rfl
          try simp only [Act.put]
          try simp only [List.setIfInBounds_toArray]
          try simp only [List.set_cons_succ]
          try simp only [List.set_cons_zero]
          refine wpAnyU_takeY (i := 1) (v := ?_) rfl (by kernel_rfl) (by kernel_rfl) (by kernel_rfl) (by kernel_rfl) (fun _ _ _ h => h) (Or.inl ⟨by rfl, ?_⟩) (by assumption) ?_
          rotate_left
          · intro w _; go_simp; try with_reducible rfl
          try simp only [Act.put]
          try simp only [List.setIfInBounds_toArray]
          try simp only [List.set_cons_succ]
          try simp only [List.set_cons_zero]
          refine wpAnyU_takeY (i := 2) (v := ?_) rfl (by kernel_rfl) (by kernel_rfl) (by kernel_rfl) (by kernel_rfl) (fun _ _ _ h => h) (Or.inl ⟨by rfl, ?_⟩) (by assumption) ?_
          rotate_left
          · intro w _; go_simp; try with_reducible rfl
          try simp only [Act.put]
          try simp only [List.setIfInBounds_toArray]
          try simp only [List.set_cons_succ]
          try simp only [List.set_cons_zero]
          refine wpAnyU_takeY (i := 3) (v := ?_) rfl (by kernel_rfl) (by kernel_rfl) (by kernel_rfl) (by kernel_rfl) (fun _ _ _ h => h) (Or.inl ⟨by rfl, ?_⟩) (by assumption) ?_
          rotate_left
          · intro w _; go_simp; try with_reducible rfl
          try simp only [Act.put]
          try simp only [List.setIfInBounds_toArray]
          try simp only [List.set_cons_succ]
          try simp only [List.set_cons_zero]
          refine wpAnyU_take (i := 4) (v := ?_) rfl (by kernel_rfl) (by kernel_rfl) (by kernel_rfl) (by kernel_rfl) (by kernel_rfl) (by kernel_rfl) (fun _ _ _ h => h) (Or.inl ⟨by rfl, ?_⟩) (by assumption) ?_
          rotate_left
          · intro w hSw; (try dsimp only at hSw); go_simp; try with_reducible rfl
          try simp only [Act.put]
          try simp only [List.setIfInBounds_toArray]
          try simp only [List.set_cons_succ]
          try simp only [List.set_cons_zero]
          refine wpAnyU_takeY (i := 5) (v := ?_) rfl (by kernel_rfl) (by kernel_rfl) (by kernel_rfl) (by kernel_rfl) (fun _ _ _ h => h) (Or.inl ⟨by rfl, ?_⟩) (by assumption) ?_
          rotate_left
          · intro w _; go_simp; try with_reducible rfl
          try simp only [Act.put]
          try simp only [List.setIfInBounds_toArray]
          try simp only [List.set_cons_succ]
          try simp only [List.set_cons_zero]
          refine wpAnyU_takeY (i := 6) (v := ?_) rfl (by kernel_rfl) (by kernel_rfl) (by kernel_rfl) (by kernel_rfl) (fun _ _ _ h => h) (Or.inl ⟨by rfl, ?_⟩) (by assumption) ?_
          rotate_left
          · intro w _; go_simp; try with_reducible rfl
          try simp only [Act.put]
          try simp only [List.setIfInBounds_toArray]
          try simp only [List.set_cons_succ]
          try simp only [List.set_cons_zero]
          refine wpAnyU_takeY (i := 7) (v := ?_) rfl (by kernel_rfl) (by kernel_rfl) (by kernel_rfl) (by kernel_rfl) (fun _ _ _ h => h) (Or.inl ⟨by rfl, ?_⟩) (by assumption) ?_
          rotate_left
          · intro w _; go_simp; try with_reducible rfl
          try simp only [Act.put]
          try simp only [List.setIfInBounds_toArray]
          try simp only [List.set_cons_succ]
          try simp only [List.set_cons_zero]
          have HF2 := Lib.hid ((HF.out.new 64 #[.int .u16 ((x ||| P : Nat) : Int)] [.int .u16 ((x ||| P : Nat) : Int)] rfl 1 rfl (by omega)).swap)
          refine wpAnyU_ready (rs := [8]) (by kernel_rfl) (by simp) ?_
          refine AllReadyU.cons rfl (fun K hK => ?_) AllReadyU.nil
          go_simp
          refine hK.out _ _ (fun h => absurd h (by decide +kernel)) ?_
          clear hK K
          try simp only [Act.put]
          try simp only [List.setIfInBounds_toArray]
          try simp only [List.set_cons_succ]
          try simp only [List.set_cons_zero]
          refine wpAnyU_ready (rs := [9]) (by kernel_rfl) (by simp) ?_
          refine AllReadyU.cons rfl (fun K hK => ?_) AllReadyU.nil
          refine step_push rfl (.tmp 25) (.tmp 33) 60 64 (.int .u16 0) 2 Try.underlying60 u16Info rfl (by omega) (by rfl) (some ⟨g, 0, .none⟩) (P + t) cp wr.heap.size (hws (grayM k t)) (.int .u16 ((x ||| P : Nat) : Int)) [] (by rfl) HF2.out.drew (by rfl) rfl hB ?_
          intro ad' cp' w3 hf hsz
          have HF3 : Hid (Fr w w3 [⟨64, .slice ad' (P + (t + 1)) cp', hws (grayM k (t + 1))⟩]) := Lib.hid (by
            rw [HST.out, ← hws_snoc]
            exact hf.sub (M := [_]) (.cons_cons _ (List.nil_sublist _)))
          clear hf hsz
          refine hK.out _ _ (fun h => absurd h (by decide +kernel)) ?_
          clear hK K
          try simp only [Act.put]
          try simp only [List.setIfInBounds_toArray]
          try simp only [List.set_cons_succ]
          try simp only [List.set_cons_zero]
          refine wpAnyU_ready (rs := [10]) (by kernel_rfl) (by simp) ?_
          refine AllReadyU.cons rfl (fun K hK => ?_) AllReadyU.nil
          go_simp
          refine hK.out _ _ (fun h => absurd h (by decide +kernel)) ?_
          clear hK K
          try simp only [Act.put]
          try simp only [List.setIfInBounds_toArray]
          try simp only [List.set_cons_succ]
          try simp only [List.set_cons_zero]
          refine wpAnyU_done (by kernel_rfl) ?_ _
          go_wp2_with fail
          exact ⟨⟨t + 1, (r : Int) - 1, ad', cp', by omega, rfl, rfl, Lib.hid (by have := HR.out; omega), HF3⟩, by simp only [intOf]; omega⟩
        · obtain rfl : t = P := by omega
          have hi : i = -1 := by have := HI.out; omega
          subst hi
          have HF4 : Hid (Fr w wr [⟨64, .slice ad (t + t) cp, hws (grayL (k + 1))⟩]) := Lib.hid (by rw [← grayM_all, HP.out]; exact HF.out)
          go_wp2_with fail
          exact ⟨⟨k + 1, t + t, ad, cp, by omega, by simp, rfl, Lib.hid (by rw [Nat.pow_succ, HP.out]; omega), HF4⟩, by simp only [intOf]; omega⟩
    · obtain rfl : k = n := by omega
      go_wp2_with fail
      go_ret2
      rw [HP.out]
      exact ⟨ad, cp, rfl, HF.out⟩
end Go.Proofs.Ytooghdnlaonkaaa
/- gray.Walk where it refuses. -/
namespace Go.Proofs.Ytooghdnlaonkaaa
open Go.RowKit

set_option maxRecDepth 100000 in
theorem grayWalkNo (n : Int) (w : World) (hn : n < 0 ∨ 10 < n) : Calls Try.prog 30 #[.int .i64 n] w fun e w' => e = .returned (.tuple #[.slice none 0 0, .int .i64 1]) ∧ w = w' := by
  by_cases h : n < 0
  · have d1 : decide (n < 0) = true := decide_eq_true h
    clear hn
    go_enter Try.func30, Try.ntmps30
    go_wp2_with fail
    go_ret2
    exact ⟨rfl, rfl⟩
  · have d1 : decide (n < 0) = false := decide_eq_false h
    have d2 : decide (10 < n) = true := decide_eq_true (by omega)
    clear hn
    go_enter Try.func30, Try.ntmps30
    go_wp2_with fail
    go_ret2
    exact ⟨rfl, rfl⟩
end Go.Proofs.Ytooghdnlaonkaaa
