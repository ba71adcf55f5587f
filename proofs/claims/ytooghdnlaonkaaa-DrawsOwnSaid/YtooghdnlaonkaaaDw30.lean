/- Several of my texts in one: Big, WDraw. -/
import Derived.Test.YtooghdnlaonkaaaDw29
import Derived.Test.YtooghdnlaonkaaaDw27
import Derived.Test.YtooghdnlaonkaaaDw28
import Derived.Test.YtooghdnlaonkaaaDw25
/- Copies of slices of any size within the form's reach. -/
namespace Go.Proofs.Ytooghdnlaonkaaa
open Go.RowKit

theorem wpList_pushAllG {ops : Array Oper} {rest : List Oper} {o : Oper} {a : Act} {Q : Exit → Act → World → Prop} {w0 w : World} (hgd : o.guard = .none) (s x : Operand) (S T : TypeId) (z : Value) (bytes : Nat)
    (hS : Try.prog.underlying S = some (.slice T)) (hT : (Try.prog.info? T).map (fun i => (i.zero, i.size, i.bytes)) = some (some z, 1, bytes)) (hz : z.cells.size = 1) (_hby : bytes ≤ 1000)
    (ho : o.op = .call { callee := .builtin .append, args := #[s, x], argTypes := #[S, S] })
    (ad sp : Option Addr) (n cap m c : Nat) (xs ys : List Value) (L : List Ent) (hs : a.eval s = .slice ad n cap) (hF : Fr w0 w (⟨T, .slice ad n cap, xs⟩ :: L))
    (hx : a.eval x = .slice sp m c) (hY : Sa w sp ys) (hm : ys.length = m) (hnone : sp = .none → c = 0 ∧ m = 0) (h1 : ∀ u ∈ ys, u.oneCell' = true) (hb1 : 1 ≤ bytes) (hlen : (n + m) * bytes ≤ 140737488355328)
    (h : ∀ ad' cap' w', Fr w0 w' (⟨T, .slice ad' (n + m) cap', xs ++ ys⟩ :: L) → w.heap.size ≤ w'.heap.size → wpList Try.prog ops Q rest (a.put o.dst (.slice ad' (n + m) cap')) w') :
    wpList Try.prog ops Q (o :: rest) a w := by
  obtain ⟨i0, hi, hz0, hz1, hz2⟩ := info_parts hT
  have hn := hF.len
  have hO := hF.os.own _ List.mem_cons_self
  cases sp with
  | none =>
    obtain ⟨rfl, rfl⟩ := hnone rfl
    obtain rfl := List.eq_nil_of_length_eq_zero hm
    subst hn
    refine wpList_append_own_none hgd s x S ho w0.heap.size T i0 1 hS hi (.slice ad xs.length cap) xs.length xs hs (by rw [← hz1]; exact hz1 ▸ hO) hx ?_
    exact h ad cap w (by simpa using hF) (Nat.le_refl _)
  | some sad =>
    subst hn
    refine wpList_append_own_at _ hgd s x S ho w0.heap.size T i0 z 1 bytes hS hi hz0 hz1 hz2 hz (by decide) (.slice ad xs.length cap) xs.length xs hs hO
      sad m c ys hx (by omega) ?_ h1 ?_ ?_ ?_ ?_
    · intro j u hj
      have hjl : j < ys.length := (List.getElem?_eq_some_iff.1 hj).1
      obtain ⟨b, off, e, _, hc⟩ := hY.at j hjl
      cases e
      rw [show ((⟨b, off, .none⟩ : Addr).add j) = ⟨b, off + j, .none⟩ from by unfold Addr.add; split <;> simp_all, hc, hj]
    · have := Nat.le_mul_of_pos_right (xs.length + m) hb1
      unfold maxLen; omega
    · exact hlen
    · exact hF.bel.size
    · intro v' w' k1 k2 hnil hat
      have hsz := k2.size
      have hb0 := hF.bel.size
      have e1 : (xs ++ ys).length = xs.length + m := by rw [List.length_append, hm]
      obtain ⟨ad', cap', rfl⟩ : ∃ ad' cap', v' = .slice ad' (xs.length + m) cap' := by
        rcases k1.2 with ⟨e1, e2⟩ | ⟨g, cap', cur, e1, _⟩
        · exact ⟨.none, 0, by rw [e2, e1]⟩
        · exact ⟨_, _, e1⟩
      refine h ad' cap' w' ⟨?_, ⟨fun e he => ?_, ?_⟩⟩ (by omega)
      · refine Below.grown (row := (Value.slice ad xs.length cap).ownBlock) hF.bel k2 (by omega) ?_
        intro k hk
        exact (Ent.own.lt hO k hk).1
      · rcases List.mem_cons.1 he with rfl | he
        · unfold Ent.own; simp only [e1]; exact k1
        · refine World.ownsRow.kept (hF.os.own e (List.mem_cons_of_mem _ he)) k2 ?_
          exact ((List.pairwise_cons.1 hF.os.far).1 e he).symm
      · have hf := List.pairwise_cons.1 hF.os.far
        refine List.pairwise_cons.2 ⟨fun b hb => ?_, hf.2⟩
        have hbf := hf.1 b hb
        have hlt := Ent.own.lt (hF.os.own b (List.mem_cons_of_mem _ hb))
        rcases hat with hat | hat
        · rcases hbf with hbf | hbf
          · exact .inl (show (Value.slice ad' (xs.length + m) cap').ownBlock = .none by rw [hat]; exact hbf)
          · exact .inr (show (Value.slice ad' (xs.length + m) cap').ownBlock ≠ _ by rw [hat]; exact hbf)
        · refine .inr (show (Value.slice ad' (xs.length + m) cap').ownBlock ≠ _ from ?_)
          rw [hat]
          intro e
          have := (hlt _ e.symm).2
          omega

set_option maxRecDepth 100000 in
set_option maxHeartbeats 1000000 in
theorem slCloneG (l : List Int) (n : Nat) (a : Option Addr) (cap : Nat) (w : World) (h : Sa w a (ints l)) (hn : l.length = n) (hl : n * 8 ≤ 140737488355328) :
    Calls Try.prog 24 #[.slice a n cap] w (OneV l n w) := by
  cases a with
  | none =>
    have h0 : n = 0 := by
      rcases Nat.eq_zero_or_pos n with h1 | h1
      · exact h1
      · obtain ⟨b, off, e, _⟩ := h (by rw [ints_len]; omega)
        cases e
    subst h0
    have hl0 := List.eq_nil_of_length_eq_zero hn
    subst hl0
    clear hn h
    have heq : ∀ w, Sem.run Try.prog (binOp .eql 32 (.slice none 0 cap) (.slice none 0 0)) w = .ok (.bool true) w := fun w => Lib.run_eql_slice_nil w 32 3 none 0 cap 0 0 Try.underlying32
    go_enter Try.func24, Try.ntmps24
    go_wp2_with fail
    go_ret
    exact ⟨_, _, rfl, by omega, (Fr.start w).nilSlice _⟩
  | some ad =>
    have HN := Lib.hid (show (ints l).length = n from by rw [ints_len, hn])
    have HS := Lib.hid (h.alloc (.cells #[] 3))
    have HF := Lib.hid ((Fr.start w).lit [] #[] rfl 0 rfl (by omega) 3)
    clear hn h
    have heq : ∀ w, Sem.run Try.prog (binOp .eql 32 (.slice (some ad) n cap) (.slice none 0 0)) w = .ok (.bool false) w := fun w => Lib.run_eql_slice_nil w 32 3 (some ad) n cap 0 0 Try.underlying32
    go_enter Try.func24, Try.ntmps24
    go_wp2_with (with_reducible refine at_slot 7 ?_; go_must (refine wpList_pushAllG rfl (.tmp 5) (.tmp 6) 32 3 (.int .i64 0) 8 Try.underlying32 intInfo rfl (by omega) rfl _ (some ad) 0 0 n cap (ints []) (ints l) [] rfl HF.out rfl HS.out HN.out (fun e => by cases e) (ints_one l) (by omega) (by omega) ?_); intro ad2 cp2 w2 hf2 hsz2)
    go_ret
    rw [Nat.zero_add] at hf2
    exact ⟨ad2, cp2, rfl, hf2.cap, hf2⟩

end Go.Proofs.Ytooghdnlaonkaaa
/- The walk of DrawsOwn (printed by gendr.py). -/
namespace Go.Proofs.Ytooghdnlaonkaaa
open Go.RowKit

/-- a sample's block -/
def smB (g : Nat) (k : Int) (a : Option Addr) (n c : Nat) : Ent := ⟨71, .slice (some ⟨g, 0, .none⟩) 2 2, [.int .i64 k, .slice a n c]⟩
set_option maxRecDepth 100000 in
set_option maxHeartbeats 32000000 in
theorem draws_walk (l : List Int) (a0 : Option Addr) (n0 c0 : Nat) (m : List Int) (a1 : Option Addr) (n1 c1 : Nat) (k1 : Int) (A : List ByteArray) (a2 : Option Addr) (n2 c2 : Nat) (k2 : Int) (B : List ByteArray) (a3 : Option Addr) (n3 c3 : Nat)
    (st : List Int) (a4 : Option Addr) (n4 c4 : Nat) (dr : List Int) (a5 : Option Addr) (n5 c5 : Nat) (w : World)
    (h0 : Sa w a0 (byts l)) (l0 : l.length = n0) (p0 : ∀ x ∈ l, 0 ≤ x) (d0 : n0 ≤ c0) (e0 : a0 = none → n0 = 0 ∧ c0 = 0) (z0 : n0 ≤ 140737488351232)
    (h1 : Sa w a1 (ints m)) (l1 : m.length = n1) (z1 : n1 ≤ maxLen)
    (h2 : Sa w a2 (strV A)) (l2 : A.length = n2) (e2 : a2 = none → n2 = 0 ∧ c2 = 0) (z2 : n2 * 16 ≤ 140737488351232)
    (h3 : Sa w a3 (strV B)) (l3 : B.length = n3) (e3 : a3 = none → n3 = 0 ∧ c3 = 0) (z3 : n3 * 16 ≤ 140737488351232)
    (h4 : Sa w a4 (ints st)) (l4 : st.length = n4) (z4 : n4 * 8 ≤ 140737488351232)
    (h5 : Sa w a5 (ints dr)) (l5 : dr.length = n5) :
    Calls Try.prog 5 #[.slice a0 n0 c0, .slice a1 n1 c1, .agg #[.int .i64 k1, .slice a2 n2 c2], .agg #[.int .i64 k2, .slice a3 n3 c3], .slice a4 n4 c4, .slice a5 n5 c5] w fun e w' => e = .returned (.bool true) ∧ Below w.heap.size w w' := by
  have G0 := Lib.hid (⟨h0, l0, p0, d0, e0, z0⟩ : _ ∧ _ ∧ _ ∧ _ ∧ _ ∧ _)
  have G1 := Lib.hid (⟨h1, l1, z1⟩ : _ ∧ _ ∧ _)
  have G2 := Lib.hid (⟨h2, l2, e2, z2⟩ : _ ∧ _ ∧ _ ∧ _)
  have G3 := Lib.hid (⟨h3, l3, e3, z3⟩ : _ ∧ _ ∧ _ ∧ _)
  have G4 := Lib.hid (⟨h4, l4, z4⟩ : _ ∧ _ ∧ _)
  have G5 := Lib.hid (⟨h5, l5⟩ : _ ∧ _)
  obtain ⟨N, hN⟩ : ∃ N, w.heap.size = N := ⟨_, rfl⟩
  have f1 := (Fr.start w).new 71 #[.int .i64 k1, .slice a2 n2 c2] [.int .i64 k1, .slice a2 n2 c2] rfl 2 rfl (by omega)
  have f2 := f1.new 71 #[.int .i64 k2, .slice a3 n3 c3] [.int .i64 k2, .slice a3 n3 c3] rfl 2 rfl (by omega)
  have u1 : (w.alloc (.cells #[.int .i64 k1, .slice a2 n2 c2] 71)).heap.size = N + 1 := by
    show (w.heap.push _).size = _
    rw [Array.size_push, hN]
  rw [hN, u1] at f2
  have HF0 := Lib.hid (show Fr w _ [smB (N + 1) k2 a3 n3 c3, smB N k1 a2 n2 c2] from f2)
  clear f1 f2 u1 h0 l0 p0 d0 e0 z0 h1 l1 z1 h2 l2 e2 z2 h3 l3 e3 z3 h4 l4 z4 h5 l5
  go_enter Try.func5, Try.ntmps5
  go_wp2_with fail
  refine (tapes_any _).mono ?_; rintro e w1 ⟨rfl, hb⟩
  have HF1 := Lib.hid (HF0.out.keep hb)
  clear hb HF0
  go_wp2_with fail
  refine (bottomsOk sortsNames w1).mono ?_; rintro e w2 ⟨rfl, hb⟩
  have HF2 := Lib.hid (HF1.out.keep hb.bel)
  clear hb HF1
  go_wp2_with fail
  refine (urns_any w2).mono ?_; rintro e w3 ⟨rfl, hb⟩
  have HF3 := Lib.hid (HF2.out.keep hb)
  clear hb HF2
  go_wp2_with fail
  refine (lotteries_any w3).mono ?_; rintro e w4 ⟨rfl, hb⟩
  have HF4 := Lib.hid (HF3.out.keep hb)
  clear hb HF3
  go_upto_region 3 with (fail)
  obtain ⟨hNb, x0, x1⟩ := smCells (HF4.out.get 1 rfl)
  obtain ⟨hMb, y0, y1⟩ := smCells (HF4.out.get 0 rfl)
  go_cut [13, 14, 15, 16] from 17 (fun s13 s14 s15 s16 wc => ∃ (b0 : Option Addr) (q0 : Nat) (b1 : Option Addr) (q1 : Nat) (b2 : Option Addr) (q2 : Nat) (b3 : Option Addr) (q3 : Nat), s13 = .slice b0 n0 q0 ∧ s14 = .slice b1 n2 q1 ∧ s15 = .slice b2 n3 q2 ∧ s16 = .slice b3 n4 q3 ∧
    Hid (Sa wc b0 (byts l)) ∧ Hid (Sa wc b1 (strV A)) ∧ Hid (Sa wc b2 (strV B)) ∧ Hid (Sa wc b3 (ints st)) ∧ Hid (Fr w wc [smB (N + 1) k2 a3 n3 c3, smB N k1 a2 n2 c2]))
  case first =>
    have hS : ∀ w', Below w4.heap.size w4 w' → (w'.cell? ⟨N, 1, .none⟩ = some (.slice a2 n2 c2) ∧ w'.cell? ⟨N + 1, 1, .none⟩ = some (.slice a3 n3 c3)) :=
      fun w' b => ⟨(b.cell (p := ⟨N, 1, none⟩) hNb).trans x1, (b.cell (p := ⟨N + 1, 1, none⟩) hMb).trans y1⟩
    have HC0 := Lib.hid (fun v (b : Below w4.heap.size w4 v) => clnBy l n0 a0 c0 v ((G0.out.1.keep HF4.out.bel).keep b) G0.out.2.1 G0.out.2.2.2.2.1 (Nat.le_trans G0.out.2.2.2.2.2 (by omega)))
    have HC1 := Lib.hid (fun v (b : Below w4.heap.size w4 v) => clnSt A n2 a2 c2 v ((G2.out.1.keep HF4.out.bel).keep b) G2.out.2.1 G2.out.2.2.1 (Nat.le_trans G2.out.2.2.2 (by omega)))
    have HC2 := Lib.hid (fun v (b : Below w4.heap.size w4 v) => clnSt B n3 a3 c3 v ((G3.out.1.keep HF4.out.bel).keep b) G3.out.2.1 G3.out.2.2.1 (Nat.le_trans G3.out.2.2.2 (by omega)))
    have HC3 := Lib.hid (fun v (b : Below w4.heap.size w4 v) => slCloneG st n4 a4 c4 v ((G4.out.1.keep HF4.out.bel).keep b) G4.out.2.1 (Nat.le_trans G4.out.2.2 (by omega)))
    clear x0 x1 y0 y1 hNb hMb
    have hB0 : Below w4.heap.size w4 w4.drew := (Below.refl _ _).drew
    refine wp_region_U [] (fun w' : World => w'.cell? ⟨N, 1, .none⟩ = some (.slice a2 n2 c2) ∧ w'.cell? ⟨N + 1, 1, .none⟩ = some (.slice a3 n3 c3)) (by kernel_rfl) ?_
    have hSd : (fun w' : World => w'.cell? ⟨N, 1, .none⟩ = some (.slice a2 n2 c2) ∧ w'.cell? ⟨N + 1, 1, .none⟩ = some (.slice a3 n3 c3)) w4.drew := hS _ hB0
    refine wpAnyU_takeY (i := 0) (v := ?_) rfl (by kernel_rfl) (by kernel_rfl) (by kernel_rfl) (by kernel_rfl) (fun _ _ _ h => h) (Or.inl ⟨by rfl, ?_⟩) (by assumption) ?_
    rotate_left
    · intro w _; go_simp; try with_reducible rfl
    try simp only [List.getElem_toArray]
    try simp only [List.getElem_cons_succ]
    try simp only [List.getElem_cons_zero]
    try simp only [Act.put]
    try simp only [List.setIfInBounds_toArray]
    try simp only [List.set_cons_succ]
    try simp only [List.set_cons_zero]
    refine wpAnyU_takeY (i := 2) (v := ?_) rfl (by kernel_rfl) (by kernel_rfl) (by kernel_rfl) (by kernel_rfl) (fun _ _ _ h => h) (Or.inl ⟨by rfl, ?_⟩) (by assumption) ?_
    rotate_left
    · intro w _; go_simp; try with_reducible rfl
    try simp only [List.getElem_toArray]
    try simp only [List.getElem_cons_succ]
    try simp only [List.getElem_cons_zero]
    try simp only [Act.put]
    try simp only [List.setIfInBounds_toArray]
    try simp only [List.set_cons_succ]
    try simp only [List.set_cons_zero]
    refine wpAnyU_take (i := 3) (v := ?_) rfl (by kernel_rfl) (by kernel_rfl) (by kernel_rfl) (by kernel_rfl) (by kernel_rfl) (by kernel_rfl) (fun _ _ _ h => h) (Or.inl ⟨by rfl, ?_⟩) (by assumption) ?_
    rotate_left
    · intro w hSw; obtain ⟨s1, s2⟩ := hSw; go_simp; try with_reducible rfl
    try simp only [List.getElem_toArray]
    try simp only [List.getElem_cons_succ]
    try simp only [List.getElem_cons_zero]
    try simp only [Act.put]
    try simp only [List.setIfInBounds_toArray]
    try simp only [List.set_cons_succ]
    try simp only [List.set_cons_zero]
    refine wpAnyU_takeY (i := 5) (v := ?_) rfl (by kernel_rfl) (by kernel_rfl) (by kernel_rfl) (by kernel_rfl) (fun _ _ _ h => h) (Or.inl ⟨by rfl, ?_⟩) (by assumption) ?_
    rotate_left
    · intro w _; go_simp; try with_reducible rfl
    try simp only [List.getElem_toArray]
    try simp only [List.getElem_cons_succ]
    try simp only [List.getElem_cons_zero]
    try simp only [Act.put]
    try simp only [List.setIfInBounds_toArray]
    try simp only [List.set_cons_succ]
    try simp only [List.set_cons_zero]
    refine wpAnyU_take (i := 6) (v := ?_) rfl (by kernel_rfl) (by kernel_rfl) (by kernel_rfl) (by kernel_rfl) (by kernel_rfl) (by kernel_rfl) (fun _ _ _ h => h) (Or.inl ⟨by rfl, ?_⟩) (by assumption) ?_
    rotate_left
    · intro w hSw; obtain ⟨s1, s2⟩ := hSw; go_simp; try with_reducible rfl
    try simp only [List.getElem_toArray]
    try simp only [List.getElem_cons_succ]
    try simp only [List.getElem_cons_zero]
    try simp only [Act.put]
    try simp only [List.setIfInBounds_toArray]
    try simp only [List.set_cons_succ]
    try simp only [List.set_cons_zero]
    refine wpAnyU_takeY (i := 8) (v := ?_) rfl (by kernel_rfl) (by kernel_rfl) (by kernel_rfl) (by kernel_rfl) (fun _ _ _ h => h) (Or.inl ⟨by rfl, ?_⟩) (by assumption) ?_
    rotate_left
    · intro w _; go_simp; try with_reducible rfl
    try simp only [List.getElem_toArray]
    try simp only [List.getElem_cons_succ]
    try simp only [List.getElem_cons_zero]
    try simp only [Act.put]
    try simp only [List.setIfInBounds_toArray]
    try simp only [List.set_cons_succ]
    try simp only [List.set_cons_zero]
    refine wpAnyU_ready (rs := [1]) (by kernel_rfl) (by simp) ?_
    refine AllReadyU.cons rfl (fun K hK => ?_) AllReadyU.nil
    go_simp
    refine (HC0.out _ hB0).mono ?_; rintro e v1 ⟨g0, q0, rfl, hf1⟩
    have hB1 := kin_trans hB0 hf1.bel
    have S0 := hf1.get 0 rfl
    clear hf1
    refine hK.out _ _ (fun _ => hS _ hB1) ?_
    clear hK K
    try simp only [List.getElem_toArray]
    try simp only [List.getElem_cons_succ]
    try simp only [List.getElem_cons_zero]
    try simp only [Act.put]
    try simp only [List.setIfInBounds_toArray]
    try simp only [List.set_cons_succ]
    try simp only [List.set_cons_zero]
    have hSd : (fun w' : World => w'.cell? ⟨N, 1, .none⟩ = some (.slice a2 n2 c2) ∧ w'.cell? ⟨N + 1, 1, .none⟩ = some (.slice a3 n3 c3)) v1 := hS _ hB1
    refine wpAnyU_ready (rs := [4]) (by kernel_rfl) (by simp) ?_
    refine AllReadyU.cons rfl (fun K hK => ?_) AllReadyU.nil
    go_simp
    refine (HC1.out _ hB1).mono ?_; rintro e v2 ⟨g1, q1, rfl, hf2⟩
    have hB2 := kin_trans hB1 hf2.bel
    have S1 := hf2.get 0 rfl
    have S0 := S0.keep hf2.bel
    clear hf2
    refine hK.out _ _ (fun _ => hS _ hB2) ?_
    clear hK K
    try simp only [List.getElem_toArray]
    try simp only [List.getElem_cons_succ]
    try simp only [List.getElem_cons_zero]
    try simp only [Act.put]
    try simp only [List.setIfInBounds_toArray]
    try simp only [List.set_cons_succ]
    try simp only [List.set_cons_zero]
    have hSd : (fun w' : World => w'.cell? ⟨N, 1, .none⟩ = some (.slice a2 n2 c2) ∧ w'.cell? ⟨N + 1, 1, .none⟩ = some (.slice a3 n3 c3)) v2 := hS _ hB2
    refine wpAnyU_ready (rs := [7]) (by kernel_rfl) (by simp) ?_
    refine AllReadyU.cons rfl (fun K hK => ?_) AllReadyU.nil
    go_simp
    refine (HC2.out _ hB2).mono ?_; rintro e v3 ⟨g2, q2, rfl, hf3⟩
    have hB3 := kin_trans hB2 hf3.bel
    have S2 := hf3.get 0 rfl
    have S0 := S0.keep hf3.bel
    have S1 := S1.keep hf3.bel
    clear hf3
    refine hK.out _ _ (fun _ => hS _ hB3) ?_
    clear hK K
    try simp only [List.getElem_toArray]
    try simp only [List.getElem_cons_succ]
    try simp only [List.getElem_cons_zero]
    try simp only [Act.put]
    try simp only [List.setIfInBounds_toArray]
    try simp only [List.set_cons_succ]
    try simp only [List.set_cons_zero]
    have hSd : (fun w' : World => w'.cell? ⟨N, 1, .none⟩ = some (.slice a2 n2 c2) ∧ w'.cell? ⟨N + 1, 1, .none⟩ = some (.slice a3 n3 c3)) v3 := hS _ hB3
    refine wpAnyU_ready (rs := [9]) (by kernel_rfl) (by simp) ?_
    refine AllReadyU.cons rfl (fun K hK => ?_) AllReadyU.nil
    go_simp
    refine (HC3.out _ hB3).mono ?_; rintro e v4 ⟨g3, q3, rfl, -, hf4⟩
    have hB4 := kin_trans hB3 hf4.bel
    have S3 := hf4.get 0 rfl
    have S0 := S0.keep hf4.bel
    have S1 := S1.keep hf4.bel
    have S2 := S2.keep hf4.bel
    clear hf4
    refine hK.out _ _ (fun _ => hS _ hB4) ?_
    clear hK K
    try simp only [List.getElem_toArray]
    try simp only [List.getElem_cons_succ]
    try simp only [List.getElem_cons_zero]
    try simp only [Act.put]
    try simp only [List.setIfInBounds_toArray]
    try simp only [List.set_cons_succ]
    try simp only [List.set_cons_zero]
    have hSd : (fun w' : World => w'.cell? ⟨N, 1, .none⟩ = some (.slice a2 n2 c2) ∧ w'.cell? ⟨N + 1, 1, .none⟩ = some (.slice a3 n3 c3)) v4 := hS _ hB4
    refine wpAnyU_takeY (i := 10) (v := ?_) rfl (by kernel_rfl) (by kernel_rfl) (by kernel_rfl) (by kernel_rfl) (fun _ _ _ h => h) (Or.inl ⟨by rfl, ?_⟩) (by assumption) ?_
    rotate_left
    · intro w _; go_simp; try with_reducible rfl
    try simp only [List.getElem_toArray]
    try simp only [List.getElem_cons_succ]
    try simp only [List.getElem_cons_zero]
    try simp only [Act.put]
    try simp only [List.setIfInBounds_toArray]
    try simp only [List.set_cons_succ]
    try simp only [List.set_cons_zero]
    refine wpAnyU_takeY (i := 11) (v := ?_) rfl (by kernel_rfl) (by kernel_rfl) (by kernel_rfl) (by kernel_rfl) (fun _ _ _ h => h) (Or.inl ⟨by rfl, ?_⟩) (by assumption) ?_
    rotate_left
    · intro w _; go_simp; try with_reducible rfl
    try simp only [List.getElem_toArray]
    try simp only [List.getElem_cons_succ]
    try simp only [List.getElem_cons_zero]
    try simp only [Act.put]
    try simp only [List.setIfInBounds_toArray]
    try simp only [List.set_cons_succ]
    try simp only [List.set_cons_zero]
    refine wpAnyU_takeY (i := 12) (v := ?_) rfl (by kernel_rfl) (by kernel_rfl) (by kernel_rfl) (by kernel_rfl) (fun _ _ _ h => h) (Or.inl ⟨by rfl, ?_⟩) (by assumption) ?_
    rotate_left
    · intro w _; go_simp; try with_reducible rfl
    try simp only [List.getElem_toArray]
    try simp only [List.getElem_cons_succ]
    try simp only [List.getElem_cons_zero]
    try simp only [Act.put]
    try simp only [List.setIfInBounds_toArray]
    try simp only [List.set_cons_succ]
    try simp only [List.set_cons_zero]
    refine wpAnyU_takeY (i := 13) (v := ?_) rfl (by kernel_rfl) (by kernel_rfl) (by kernel_rfl) (by kernel_rfl) (fun _ _ _ h => h) (Or.inl ⟨by rfl, ?_⟩) (by assumption) ?_
    rotate_left
    · intro w _; go_simp; try with_reducible rfl
    try simp only [List.getElem_toArray]
    try simp only [List.getElem_cons_succ]
    try simp only [List.getElem_cons_zero]
    try simp only [Act.put]
    try simp only [List.setIfInBounds_toArray]
    try simp only [List.set_cons_succ]
    try simp only [List.set_cons_zero]
    refine wpAnyU_done (by kernel_rfl) ?_ _
    have HFZ := Lib.hid (HF4.out.keep hB4)
    go_wp2_with fail
    go_meet
    exact ⟨g0, q0, g1, q1, g2, q2, g3, q3, rfl, rfl, rfl, rfl, Lib.hid S0, Lib.hid S1, Lib.hid S2, Lib.hid S3, HFZ⟩
  case rest =>
  obtain ⟨g0, q0, g1, q1, g2, q2, g3, q3, rfl, rfl, rfl, rfl, K0, K1, K2, K3, HFC⟩ := hcut
  clear HF4 x0 x1 y0 y1 hNb hMb
  have HR := Lib.hid (fun v (b : Below wc.heap.size wc v) => tpRowA l m n0 n1 a0 a1 c0 c1 v ((G0.out.1.keep HFC.out.bel).keep b) ((G1.out.1.keep HFC.out.bel).keep b) G0.out.2.1 G1.out.2.1 G0.out.2.2.1 (by have := G0.out.2.2.2.2.2; unfold maxLen; omega) G0.out.2.2.2.1 G1.out.2.2)
  obtain ⟨er, her⟩ : ∃ er, rowE l m = er := ⟨_, rfl⟩
  rw [her] at HR
  clear her
  go_wp2_with fail
  refine (HR.out wc (Below.refl _ _)).mono ?_; rintro e v1 ⟨u1, R1, nr1, ar1, cr1, rfl, hl1, h30, hf1, h7⟩
  have HS1 := Lib.hid (spoilI 3 ar1 nr1 cr1 (ints R1) (-7) hf1)
  clear hl1 h30 hf1 h7
  go_wp2_with fail
  refine HS1.out.mono ?_; rintro e v2 ⟨⟨t2, rfl⟩, hf2⟩
  have HB2 := Lib.hid hf2.bel
  clear HS1 hf2
  have HF2 := Lib.hid (HFC.out.keep HB2.out)
  obtain ⟨-, x0, x1⟩ := smCells (HF2.out.get 1 rfl)
  obtain ⟨-, y0, y1⟩ := smCells (HF2.out.get 0 rfl)
  have HJ := Lib.hid (botJoinU sortsNames k1 k2 A B n2 n3 a2 a3 c2 c3 v2 (G2.out.1.keep HF2.out.bel) (G3.out.1.keep HF2.out.bel) G2.out.2.1 G3.out.2.1 G2.out.2.2.1 G3.out.2.2.1 (by have := G2.out.2.2.2; unfold maxLen; omega) (by have := G3.out.2.2.2; unfold maxLen; omega))
  go_wp2_with fail
  refine HJ.out.mono ?_; rintro e v3 ⟨er3, kk3, R3, ad3, nn3, cp3, rfl, hf3⟩
  obtain ⟨M3, hM3⟩ : ∃ M, v3.heap.size = M := ⟨_, rfl⟩
  have hn3 := hf3.new 71 #[.int .i64 kk3, .slice ad3 nn3 cp3] [.int .i64 kk3, .slice ad3 nn3 cp3] rfl 2 rfl (by omega)
  rw [hM3] at hn3
  obtain ⟨-, t0, t1⟩ := smCells (hn3.get 0 rfl)
  have HS3 := Lib.hid (spoilS 9 ad3 nn3 cp3 (strV R3) ⟨#[63]⟩ hn3.swap)
  clear HJ hf3 hn3 x0 x1 y0 y1
  go_wp2_with fail
  refine HS3.out.mono ?_; rintro e v4 ⟨⟨t4, rfl⟩, hf4⟩
  have HB4 := Lib.hid (kin_trans HB2.out hf4.bel)
  clear HS3 hf4 HF2 t0 t1 hM3
  have HF4 := Lib.hid (HFC.out.keep HB4.out)
  obtain ⟨-, x0, x1⟩ := smCells (HF4.out.get 1 rfl)
  have HJ := Lib.hid (botOfU sortsNames 5 A n2 a2 c2 v4 (G2.out.1.keep HF4.out.bel) G2.out.2.1 G2.out.2.2.1 (Nat.le_trans G2.out.2.2.2 (by omega)) (by omega) (by omega))
  go_wp2_with fail
  refine HJ.out.mono ?_; rintro e v5 ⟨er5, kk5, R5, ad5, nn5, cp5, rfl, hf5⟩
  obtain ⟨M5, hM5⟩ : ∃ M, v5.heap.size = M := ⟨_, rfl⟩
  have hn5 := hf5.new 71 #[.int .i64 kk5, .slice ad5 nn5 cp5] [.int .i64 kk5, .slice ad5 nn5 cp5] rfl 2 rfl (by omega)
  rw [hM5] at hn5
  obtain ⟨-, t0, t1⟩ := smCells (hn5.get 0 rfl)
  have HS5 := Lib.hid (spoilS 9 ad5 nn5 cp5 (strV R5) ⟨#[63]⟩ hn5.swap)
  clear HJ hf5 hn5 x0 x1
  go_wp2_with fail
  refine HS5.out.mono ?_; rintro e v6 ⟨⟨t6, rfl⟩, hf6⟩
  have HB6 := Lib.hid (kin_trans HB4.out hf6.bel)
  clear HS5 hf6 HF4 t0 t1 hM5 HB4 HB2
  go_wp2_with fail
  refine (urnAfter st n4 a4 c4 1 dr n5 a5 c5 v6 (G4.out.1.keep (kin_trans HFC.out.bel HB6.out)) G4.out.2.1 (G5.out.1.keep (kin_trans HFC.out.bel HB6.out)) G5.out.2).mono ?_; rintro e v7 ⟨ad7, nn7, cp7, rfl, -, hf7⟩
  have HS7 := Lib.hid (spoilI 3 ad7 nn7 cp7 _ (-7) hf7)
  clear hf7
  obtain ⟨er7, her7⟩ : ∃ er, (aftL st 1 dr).2 = er := ⟨_, rfl⟩
  rw [her7]
  clear her7
  go_wp2_with fail
  refine HS7.out.mono ?_; rintro e v8 ⟨⟨t8, rfl⟩, hf8⟩
  have HB8 := Lib.hid (kin_trans HB6.out hf8.bel)
  clear HS7 hf8 HB6
  go_wp2_with fail
  refine (lotLendA st n4 a4 c4 0 0 0 v8 (G4.out.1.keep (kin_trans HFC.out.bel HB8.out)) G4.out.2.1 (by have := G4.out.2.2; unfold maxLen; omega)).mono ?_; rintro e v9 ⟨er9, R9, nn9, ad9, cp9, rfl, hf9⟩
  have HS9 := Lib.hid (spoilI 3 ad9 nn9 cp9 _ (-7) hf9)
  clear hf9
  go_wp2_with fail
  refine HS9.out.mono ?_; rintro e v10 ⟨⟨t10, rfl⟩, hf10⟩
  have HB10 := Lib.hid (kin_trans HB8.out hf10.bel)
  clear HS9 hf10 HB8
  go_wp2_with fail
  refine (HR.out v10 HB10.out).mono ?_; rintro e v11 ⟨u11, R11, nr11, ar11, cr11, rfl, hl11, h30, hf11, h7⟩
  have HB11 := Lib.hid (kin_trans HB10.out hf11.bel)
  have HL11 := Lib.hid hl11; have H30 := Lib.hid h30; have H7 := Lib.hid h7; have HC11 := Lib.hid (hf11.get 0 rfl)
  clear HB10 hl11 h30 hf11 h7 HR
  have HE1 := Lib.hid (slEqBy l n0 a0 g0 c0 q0 v11 (G0.out.1.keep (kin_trans HFC.out.bel HB11.out)) (K0.out.keep HB11.out) G0.out.2.1 (by have := G0.out.2.2.2.2.2; unfold maxLen; omega))
  go_wp2_with fail
  refine HE1.out.mono ?_; rintro e v12 ⟨rfl, hf12⟩
  have HB12 := Lib.hid (kin_trans HB11.out hf12.bel)
  have HX12 := Lib.hid (HC11.out.keep hf12.bel)
  clear hf12 HE1 HC11
  have HF12 := Lib.hid (HFC.out.keep HB12.out)
  obtain ⟨-, x0, x1⟩ := smCells (HF12.out.get 1 rfl)
  have HE2 := Lib.hid (slEqS A A n2 n2 a2 g1 c2 q1 v12 (G2.out.1.keep HF12.out.bel) (K1.out.keep HB12.out) G2.out.2.1 G2.out.2.1 (by have := G2.out.2.2.2; unfold maxLen; omega) (by have := G2.out.2.2.2; unfold maxLen; omega))
  rw [decide_eq_true (rfl : A = A)] at HE2
  go_wp2_with fail
  refine HE2.out.mono ?_; rintro e v13 ⟨rfl, hf13⟩
  have HB13 := Lib.hid (kin_trans HB12.out hf13.bel)
  have HX13 := Lib.hid (HX12.out.keep hf13.bel)
  clear hf13 HE2 HX12 x0 x1 HF12
  have HF13 := Lib.hid (HFC.out.keep HB13.out)
  obtain ⟨-, y0, y1⟩ := smCells (HF13.out.get 0 rfl)
  have HE3 := Lib.hid (slEqS B B n3 n3 a3 g2 c3 q2 v13 (G3.out.1.keep HF13.out.bel) (K2.out.keep HB13.out) G3.out.2.1 G3.out.2.1 (by have := G3.out.2.2.2; unfold maxLen; omega) (by have := G3.out.2.2.2; unfold maxLen; omega))
  rw [decide_eq_true (rfl : B = B)] at HE3
  go_wp2_with fail
  refine HE3.out.mono ?_; rintro e v14 ⟨rfl, hf14⟩
  have HB14 := Lib.hid (kin_trans HB13.out hf14.bel)
  have HX14 := Lib.hid (HX13.out.keep hf14.bel)
  clear hf14 HE3 HX13 y0 y1 HF13
  have HE4 := Lib.hid (slEqIB st n4 a4 g3 c4 q3 v14 (G4.out.1.keep (kin_trans HFC.out.bel HB14.out)) (K3.out.keep HB14.out) G4.out.2.1 (by have := G4.out.2.2; unfold maxLen; omega))
  have g5 : (er == er) = true := beq_self_eq_true _
  go_wp2_with fail
  refine HE4.out.mono ?_; rintro e v15 ⟨rfl, hf15⟩
  have HB15 := Lib.hid (kin_trans HB14.out hf15.bel)
  have HX15 := Lib.hid (HX14.out.keep hf15.bel)
  clear hf15 HE4 HX14
  have HE5 := Lib.hid (slCoI R11 nr11 ar11 cr11 (-7) v15 HX15.out HL11.out (by have := H30.out; unfold maxLen; omega))
  go_wp2_with fail
  refine HE5.out.mono ?_; rintro e v16 ⟨bb, rfl, hbb, hf16⟩
  have hbf : bb = false := by cases bb; rfl; exact absurd (hbb.1 rfl) H7.out
  subst hbf
  have HBZ := Lib.hid (kin_trans HFC.out.bel (kin_trans HB15.out hf16.bel))
  clear hbb hf16 HE5
  go_wp2_with fail
  go_ret
  exact ⟨rfl, HBZ.out⟩
end Go.Proofs.Ytooghdnlaonkaaa
