/- Several of my texts in one: MDo. -/
import Derived.Test.YtjplnkkcmkpkbaaMA45
import Derived.Test.YtjplnkkcmkpkbaaMA36
set_option linter.unusedSimpArgs false
set_option linter.unusedVariables false
/- Contract of many.do: a job's deeds in a new hall. -/
namespace Go.Proofs.Ytjplnkkcmkpkbaa
open Go.RowKit

theorem toldInfo : (Try.prog.info? 35).map (fun i => (i.zero, i.size, i.bytes)) = some (some (.agg #[.string ByteArray.empty, .int .i64 0]), 2, 24) := by kernel_rfl
theorem errInfo : (Try.prog.info? 24).map (fun i => (i.zero, i.size, i.bytes)) = some (some (.int .i64 0), 1, 8) := by kernel_rfl
def toldC (r : DR) : List Value := [.string r.nm, .int .i64 r.n]
def errC (r : DR) : List Value := [.int .i64 r.er]
/-- what is told of each deed, one behind the other -/
def runR (s : HSt) : List Deed → List DR
  | [] => []
  | d :: D => doD s d :: runR (doD s d).s D
theorem runR_len : ∀ (D : List Deed) (s : HSt), (runR s D).length = D.length
  | [], _ => rfl
  | d :: D, s => by rw [runR, List.length_cons, List.length_cons, runR_len D]
theorem runR_app : ∀ (D E : List Deed) (s : HSt), runR s (D ++ E) = runR s D ++ runR (runD D s) E
  | [], E, s => rfl
  | d :: D, E, s => by
    rw [List.cons_append, runR, runR, runR_app D E]
    rfl
theorem runR_take {D : List Deed} {k : Nat} {d : Deed} (h : D[k]? = some d) (s : HSt) : runR s (D.take (k + 1)) = runR s (D.take k) ++ [doD (runD (D.take k) s) d] := by
  rw [List.take_add_one, h, runR_app]; rfl
/-- a slice that lies in a block from 'base' on, told by its cells -/
def SxI (base : Nat) (ad : Option Addr) (xs : List Value) (w : World) : Prop := 0 < xs.length → ∃ b, ad = some ⟨b, 0, none⟩ ∧ base ≤ b ∧ b < w.heap.size ∧ ∀ i, i < xs.length → w.cell? ⟨b, i, none⟩ = xs[i]?
def DoneIs (base : Nat) (R : List DR) (v : Value) (w : World) : Prop :=
  ∃ ad1 c1 ad2 c2, v = .agg #[.slice ad1 R.length c1, .slice ad2 R.length c2] ∧ SxI base ad1 (rowsC toldC R) w ∧ SxI base ad2 (rowsC errC R) w
theorem SxI.of {w0 w : World} {B : List Big} (h : Fg w0 w B) {T : TypeId} {c n cap : Nat} {ad : Option Addr} {xs : List Value} (he : (⟨T, c, n, .slice ad n cap, xs⟩ : Big) ∈ B) : SxI w0.heap.size ad xs w := fun h0 => by
  obtain ⟨g, e, h1, h2, h3, _⟩ := h.open he h0
  exact ⟨g, e, h1, h2, h3⟩
theorem doS_of {w0 w : World} {L : List Big} (h : Fg w0 w L) {O N : Nat} {v1 v2 : Value} {nm : ByteArray} {nn : Int} (hO : (⟨33, 1, 2, .slice (some ⟨O, 0, none⟩) 2 2, [v1, v2]⟩ : Big) ∈ L) (hT : eT N nm nn ∈ L) :
    w.cell? ⟨O, 0, .none⟩ = some v1 ∧ w.cell? ⟨O, 1, .none⟩ = some v2 ∧ w.cell? ⟨N, 0, .none⟩ = some (.string nm) ∧ w.cell? ⟨N, 1, .none⟩ = some (.int .i64 nn) := by
  obtain ⟨g, e, _, _, h2, _⟩ := h.open hO (by simp)
  cases e
  obtain ⟨t0, t1, _, _⟩ := h.told hT
  exact ⟨h2 0 (by simp), h2 1 (by simp), t0, t1⟩
theorem cellsT {w0 w : World} {L : List Big} (h : Fg w0 w L) {N : Nat} {nm : ByteArray} {nn : Int} (he : (⟨35, 1, 2, .slice (some ⟨N, 0, none⟩) 2 2, [.string nm, .int .i64 nn]⟩ : Big) ∈ L) :
    ∀ (j : Nat) (u : Value), ([.string nm, .int .i64 nn] : List Value)[j]? = some u → w.cell? ⟨N, j, none⟩ = some u := by
  obtain ⟨g, e, _, _, h2, _⟩ := h.open he (by simp)
  cases e
  intro j u hj
  rw [h2 j (List.getElem?_eq_some_iff.1 hj).1, hj]
theorem cellsE {w0 w : World} {L : List Big} (h : Fg w0 w L) {N : Nat} {er : Int} (he : (⟨24, 1, 1, .slice (some ⟨N, 0, none⟩) 1 1, [.int .i64 er]⟩ : Big) ∈ L) :
    ∀ (j : Nat) (u : Value), ([.int .i64 er] : List Value)[j]? = some u → w.cell? ⟨N, j, none⟩ = some u := by
  obtain ⟨g, e, _, _, h2, _⟩ := h.open he (by simp)
  cases e
  intro j u hj
  rw [h2 j (List.getElem?_eq_some_iff.1 hj).1, hj]
/-- append of one element to one of them, wherever it stands in the list -/
theorem step_pushI {ops : Array Oper} {o : Oper} {a : Act} {K : Act → World → Prop} {Q : Exit → Act → World → Prop} {E : Prop} {w0 w : World} (hgd : o.guard = .none) (s x : Operand) (S T : TypeId) (z : Value) (c bytes : Nat)
    (hS : Try.prog.underlying S = some (.slice T)) (hT : (Try.prog.info? T).map (fun i => (i.zero, i.size, i.bytes)) = some (some z, c, bytes)) (hz : z.cells.size = c) (hc : 0 < c) (hby : 0 < bytes)
    (ho : o.op = .call { callee := .builtin .append, args := #[s, x], argTypes := #[S, S] })
    (ad : Option Addr) (n cap b : Nat) (xs ys : List Value) {B1 B : List Big} (hs : a.eval s = .slice ad n cap) (hF : Fg w0 w (B1 ++ ⟨T, c, n, .slice ad n cap, xs⟩ :: B))
    (hx : a.eval x = .slice (some ⟨b, 0, .none⟩) 1 1) (hC : ∀ (j : Nat) (u : Value), ys[j]? = some u → w.cell? ⟨b, j, .none⟩ = some u) (hy : ys.length = c) (h1 : ∀ u ∈ ys, u.oneCell' = true) (hlen : (n + 1) * bytes ≤ 140737488355328)
    (h : ∀ ad' cap' w', Fg w0 w' (B1 ++ ⟨T, c, n + 1, .slice ad' (n + 1) cap', xs ++ ys⟩ :: B) → w.heap.size ≤ w'.heap.size → K (a.put o.dst (.slice ad' (n + 1) cap')) w') :
    if Region.wanted o (yielded ops a.tmps) = true then Oper.wp Try.prog o a w K Q else E :=
  step_pushG hgd s x S T z c bytes hS hT hz hc hby ho ad n cap b xs ys (B1 ++ B) hs (hF.perm List.perm_middle) hx hC hy h1 hlen fun ad' cap' w' hf hsz => h ad' cap' w' (hf.perm List.perm_middle.symm) hsz

set_option maxRecDepth 100000 in
set_option maxHeartbeats 8000000 in
theorem manyDo (D : List Deed) (n : Nat) (a : Option Addr) (cap : Nat) (w : World) (h : Deeds w a n D) (hb : (n + 1) * 40 ≤ 140737488355328) :
    Calls Try.prog 10 #[.slice a n cap] w fun e w' => ∃ v, e = .returned v ∧ DoneIs w.heap.size (runR ⟨[], []⟩ D) v w' := by
  have HD := Lib.hid h
  clear h
  obtain ⟨R, hR⟩ : ∃ R, w.heap.size = R := ⟨_, rfl⟩
  have HF0 := Lib.hid ((Fg.start w).new 33 #[.slice none 0 0, .slice none 0 0] [.slice none 0 0, .slice none 0 0] rfl R hR 2 rfl (by omega))
  go_enter Try.func10, Try.ntmps10
  go_wp2_with fail
  refine (halNew _).mono ?_; rintro e w1 ⟨H, rfl, am0, cm0, al0, cl0, hw1⟩
  have hf1 : Fg w w1 (hallE H am0 cm0 al0 cl0 ⟨[], []⟩ [⟨33, 1, 2, .slice (some ⟨R, 0, none⟩) 2 2, [.slice none 0 0, .slice none 0 0]⟩]) := HF0.out.callG hw1
  obtain ⟨O, hO⟩ : ∃ O, w1.heap.size = O := ⟨_, rfl⟩
  have hf2 := hf1.new 33 #[.slice none 0 0, .slice none 0 0] [.slice none 0 0, .slice none 0 0] rfl O hO 2 rfl (by omega)
  have hf3 := (hf2.nilSlice 24 1).nilSlice 35 2
  have HF3 : Hid (Fg w (w1.alloc (.cells #[.slice none 0 0, .slice none 0 0] 33)) (hallE H am0 cm0 al0 cl0 ⟨[], []⟩ [⟨35, 2, 0, .slice none 0 0, []⟩, ⟨24, 1, 0, .slice none 0 0, []⟩, ⟨33, 1, 2, .slice (some ⟨O, 0, none⟩) 2 2, [.slice none 0 0, .slice none 0 0]⟩, ⟨33, 1, 2, .slice (some ⟨R, 0, none⟩) 2 2, [.slice none 0 0, .slice none 0 0]⟩])) :=
    Lib.hid (hf3.perm (List.perm_append_comm_assoc [_, _, _] [_, _, _] [_]))
  clear hf1 hf2 hf3 hw1 HF0
  go_wp2_with fail
  go_loopw [12] (fun q wr => ∃ (k : Nat) (ad1 ad2 : Option Addr) (q1 q2 : Nat), k ≤ n ∧ q = .int .i64 k ∧ Hid (Hw w wr H (runD (D.take k) ⟨[], []⟩) [⟨35, 2, k, .slice ad1 k q1, rowsC toldC (runR ⟨[], []⟩ (D.take k))⟩, ⟨24, 1, k, .slice ad2 k q2, rowsC errC (runR ⟨[], []⟩ (D.take k))⟩, ⟨33, 1, 2, .slice (some ⟨O, 0, none⟩) 2 2, [.slice ad1 k q1, .slice ad2 k q2]⟩, ⟨33, 1, 2, .slice (some ⟨R, 0, none⟩) 2 2, [.slice none 0 0, .slice none 0 0]⟩])) (fun q _ => n - (intOf q).toNat)
  case atStart => exact ⟨0, none, none, 0, 0, by omega, rfl, Lib.hid ⟨_, _, _, _, HF3.out⟩⟩
  case round =>
    obtain ⟨k, ad1, ad2, q1, q2, hk, rfl, HW⟩ := hrel
    by_cases hlt : k < n
    · obtain ⟨d, hd⟩ : ∃ d, D[k]? = some d := ⟨_, List.getElem?_eq_getElem (by rw [HD.out.len]; exact hlt)⟩
      obtain ⟨b, off, rfl, -, x1, x2, x3, x4⟩ := (HD.out.sa.keep HW.out.below).deedA k d hd
      have HA := Lib.hid (HW.out.alloc (.cells #[.int .i64 d.k, .int .i64 d.n, .string d.nm, .string d.to] 28))
      have hok := runD_ok (D.take k) ⟨[], []⟩ 0 (hok0 0)
      rw [List.length_take, HD.out.len, Nat.min_eq_left hk, Nat.zero_add] at hok
      have HC := Lib.hid (halDo H _ _ k d.k d.n d.nm d.to HA.out hok (by omega) (HD.out.nm d (List.mem_of_getElem? hd)))
      have HT := Lib.hid (runD_take hd ⟨[], []⟩)
      have HT2 := Lib.hid (runR_take hd ⟨[], []⟩)
      have d1 : (0 : Int) ≤ (k : Int) := by omega
      have d2 : (k : Int) < (n : Int) := by omega
      have HB24 : Hid ((k + 1) * 24 ≤ 140737488355328 ∧ (k + 1) * 8 ≤ 140737488355328) := Lib.hid (by omega)
      clear hok hd
      go_wp2_with fail
      refine HC.out.mono ?_; rintro e w2 ⟨rfl, hw2⟩
      obtain ⟨N, hN⟩ : ∃ N, w2.heap.size = N := ⟨_, rfl⟩
      obtain ⟨r, hr⟩ : ∃ r, doD (runD (D.take k) ⟨[], []⟩) d = r := ⟨_, rfl⟩
      have hr' : doS (runD (D.take k) ⟨[], []⟩) d.k d.n d.nm d.to = r := hr
      have hT := HT.out
      have hT2 := HT2.out
      rw [hr] at hT hT2
      rw [hr'] at hw2 ⊢
      obtain ⟨s, nm, nn, er⟩ := r
      obtain ⟨xs1, hx1⟩ : ∃ xs, rowsC toldC (runR ⟨[], []⟩ (D.take k)) = xs := ⟨_, rfl⟩
      obtain ⟨xs2, hx2⟩ : ∃ xs, rowsC errC (runR ⟨[], []⟩ (D.take k)) = xs := ⟨_, rfl⟩
      rw [hx1, hx2] at hw2
      obtain ⟨am, cm, al, cl, hw2⟩ := hw2
      have hf4 := hw2.new 35 #[.string nm, .int .i64 nn] [.string nm, .int .i64 nn] rfl N hN 2 rfl (by omega)
      have HE : Hid (∀ w' ad1n q1n ad2n q2n, Fg w w' (hallE H am cm al cl s [⟨35, 2, k + 1, .slice ad1n (k + 1) q1n, xs1 ++ [.string nm, .int .i64 nn]⟩, ⟨24, 1, k + 1, .slice ad2n (k + 1) q2n, xs2 ++ [.int .i64 er]⟩, ⟨33, 1, 2, .slice (some ⟨O, 0, none⟩) 2 2, [.slice ad1n (k + 1) q1n, .slice ad2n (k + 1) q2n]⟩, ⟨33, 1, 2, .slice (some ⟨R, 0, none⟩) 2 2, [.slice none 0 0, .slice none 0 0]⟩]) →
          Hid (Hw w w' H (runD (D.take (k + 1)) ⟨[], []⟩) [⟨35, 2, k + 1, .slice ad1n (k + 1) q1n, rowsC toldC (runR ⟨[], []⟩ (D.take (k + 1)))⟩, ⟨24, 1, k + 1, .slice ad2n (k + 1) q2n, rowsC errC (runR ⟨[], []⟩ (D.take (k + 1)))⟩, ⟨33, 1, 2, .slice (some ⟨O, 0, none⟩) 2 2, [.slice ad1n (k + 1) q1n, .slice ad2n (k + 1) q2n]⟩, ⟨33, 1, 2, .slice (some ⟨R, 0, none⟩) 2 2, [.slice none 0 0, .slice none 0 0]⟩])) := Lib.hid fun w' ad1n q1n ad2n q2n hf => by
        rw [hT, hT2, rowsC_app, rowsC_app, hx1, hx2, rowsC_one, rowsC_one]
        exact Lib.hid ⟨_, _, _, _, hf⟩
      have HF := Lib.hid hf4
      clear hf4 hw2 hT hT2 hx1 hx2 hr hr' HC HA HT HT2
      obtain ⟨W, hW⟩ : ∃ W, w2.alloc (.cells #[.string nm, .int .i64 nn] 35) = W := ⟨_, rfl⟩
      rw [hW] at HF
      have HWW := Lib.hid hW
      clear hW
      go_wp2_with fail
      rw [HWW.out]
      clear x1 x2 x3 x4
      obtain ⟨hb24, hb8⟩ := HB24.out
      refine wp_region_U [11, 13] (fun w' : World => w'.cell? ⟨O, 0, .none⟩ = some (.slice ad1 k q1) ∧ w'.cell? ⟨O, 1, .none⟩ = some (.slice ad2 k q2) ∧ w'.cell? ⟨N, 0, .none⟩ = some (.string nm) ∧ w'.cell? ⟨N, 1, .none⟩ = some (.int .i64 nn)) (by kernel_rfl) ?_
      have hSd : (fun w' : World => w'.cell? ⟨O, 0, .none⟩ = some (.slice ad1 k q1) ∧ w'.cell? ⟨O, 1, .none⟩ = some (.slice ad2 k q2) ∧ w'.cell? ⟨N, 0, .none⟩ = some (.string nm) ∧ w'.cell? ⟨N, 1, .none⟩ = some (.int .i64 nn)) W.drew := doS_of HF.out.drew (by simp [hallE]) (by simp [eT])
      refine wpAnyU_takeY (i := 0) (v := ?_) rfl (by kernel_rfl) (by kernel_rfl) (by kernel_rfl) (by kernel_rfl) (fun _ _ _ h => h) (Or.inl ⟨by rfl, ?_⟩) (by assumption) ?_
      rotate_left
      · intro w _; go_simp; try with_reducible rfl
      try simp only [Act.put]
      try simp only [List.setIfInBounds_toArray]
      try simp only [List.set_cons_succ]
      try simp only [List.set_cons_zero]
      refine wpAnyU_take (i := 1) (v := ?_) rfl (by kernel_rfl) (by kernel_rfl) (by kernel_rfl) (by kernel_rfl) (by kernel_rfl) (by kernel_rfl) (fun _ _ _ h => h) (Or.inl ⟨by rfl, ?_⟩) (by assumption) ?_
      rotate_left
      · intro w hSw; obtain ⟨s1, s2, s3, s4⟩ := hSw; go_simp; try with_reducible rfl
      try simp only [Act.put]
      try simp only [List.setIfInBounds_toArray]
      try simp only [List.set_cons_succ]
      try simp only [List.set_cons_zero]
      refine wpAnyU_take (i := 2) (v := ?_) rfl (by kernel_rfl) (by kernel_rfl) (by kernel_rfl) (by kernel_rfl) (by kernel_rfl) (by kernel_rfl) (fun _ _ _ h => h) (Or.inl ⟨by rfl, ?_⟩) (by assumption) ?_
      rotate_left
      · intro w hSw; obtain ⟨s1, s2, s3, s4⟩ := hSw; go_simp; try with_reducible rfl
      try simp only [Act.put]
      try simp only [List.setIfInBounds_toArray]
      try simp only [List.set_cons_succ]
      try simp only [List.set_cons_zero]
      refine wpAnyU_takeY (i := 5) (v := ?_) rfl (by kernel_rfl) (by kernel_rfl) (by kernel_rfl) (by kernel_rfl) (fun _ _ _ h => h) (Or.inl ⟨by rfl, ?_⟩) (by assumption) ?_
      rotate_left
      · intro w _; go_simp; try with_reducible rfl
      try simp only [Act.put]
      try simp only [List.setIfInBounds_toArray]
      try simp only [List.set_cons_succ]
      try simp only [List.set_cons_zero]
      refine wpAnyU_take (i := 6) (v := ?_) rfl (by kernel_rfl) (by kernel_rfl) (by kernel_rfl) (by kernel_rfl) (by kernel_rfl) (by kernel_rfl) (fun _ _ _ h => h) (Or.inl ⟨by rfl, ?_⟩) (by assumption) ?_
      rotate_left
      · intro w hSw; obtain ⟨s1, s2, s3, s4⟩ := hSw; go_simp; try with_reducible rfl
      try simp only [Act.put]
      try simp only [List.setIfInBounds_toArray]
      try simp only [List.set_cons_succ]
      try simp only [List.set_cons_zero]
      refine wpAnyU_takeY (i := 7) (v := ?_) rfl (by kernel_rfl) (by kernel_rfl) (by kernel_rfl) (by kernel_rfl) (fun _ _ _ h => h) (Or.inl ⟨by rfl, ?_⟩) (by assumption) ?_
      rotate_left
      · intro w _; go_simp; try with_reducible rfl
      try simp only [Act.put]
      try simp only [List.setIfInBounds_toArray]
      try simp only [List.set_cons_succ]
      try simp only [List.set_cons_zero]
      refine wpAnyU_ready (rs := [3, 8]) (by kernel_rfl) (by simp) ?_
      refine AllReadyU.cons rfl (fun K hK => ?_) ?_
      · go_simp
        have HF := Lib.hid (HF.out.new 35 #[.string nm, .int .i64 nn] [.string nm, .int .i64 nn] rfl (W.heap.size) (by simp) 2 rfl (by omega))
        refine hK.out _ _ (fun _ => doS_of (HF.out.drew) (by simp [hallE]) (by simp [eT])) ?_
        clear hK K
        try simp only [Act.put]
        try simp only [List.setIfInBounds_toArray]
        try simp only [List.set_cons_succ]
        try simp only [List.set_cons_zero]
        refine wpAnyU_ready (rs := [4, 8]) (by kernel_rfl) (by simp) ?_
        refine AllReadyU.cons rfl (fun K hK => ?_) ?_
        · have HC := Lib.hid (cellsT (HF.out.drew) (N := W.heap.size) (nm := nm) (nn := nn) (by simp [hallE]))
          refine step_pushI rfl (.tmp 23) (.tmp 25) 30 35 (.agg #[.string ByteArray.empty, .int .i64 0]) 2 24 Try.underlying30 toldInfo rfl (by omega) (by omega) (by rfl) ad1 k q1 (W.heap.size) xs1 [.string nm, .int .i64 nn] (B1 := [_, _, _, _, _]) (by rfl) (HF.out.drew) (by rfl) HC.out rfl (by simp [Value.oneCell']) (by omega) ?_
          intro ad1n q1n w4 hf hsz
          have HF := Lib.hid hf
          clear hf hsz
          refine hK.out _ _ (fun _ => doS_of (HF.out) (by simp [hallE]) (by simp [eT])) ?_
          clear hK K
          try simp only [Act.put]
          try simp only [List.setIfInBounds_toArray]
          try simp only [List.set_cons_succ]
          try simp only [List.set_cons_zero]
          refine wpAnyU_takeY (i := 10) (v := ?_) rfl (by kernel_rfl) (by kernel_rfl) (by kernel_rfl) (by kernel_rfl) (fun _ _ _ h => h) (Or.inl ⟨by rfl, ?_⟩) (doS_of (HF.out) (by simp [hallE]) (by simp [eT])) ?_
          rotate_left
          · intro w _; go_simp; try with_reducible rfl
          try simp only [Act.put]
          try simp only [List.setIfInBounds_toArray]
          try simp only [List.set_cons_succ]
          try simp only [List.set_cons_zero]
          refine wpAnyU_ready (rs := [8]) (by kernel_rfl) (by simp) ?_
          refine AllReadyU.cons rfl (fun K hK => ?_) AllReadyU.nil
          go_simp
          have HF := Lib.hid (HF.out.new 24 #[.int .i64 er] [.int .i64 er] rfl (w4.heap.size) (by simp) 1 rfl (by omega))
          refine hK.out _ _ (fun _ => doS_of (HF.out) (by simp [hallE]) (by simp [eT])) ?_
          clear hK K
          try simp only [Act.put]
          try simp only [List.setIfInBounds_toArray]
          try simp only [List.set_cons_succ]
          try simp only [List.set_cons_zero]
          refine wpAnyU_ready (rs := [9]) (by kernel_rfl) (by simp) ?_
          refine AllReadyU.cons rfl (fun K hK => ?_) AllReadyU.nil
          have HC := Lib.hid (cellsE (HF.out) (N := w4.heap.size) (er := er) (by simp [hallE]))
          refine step_pushI rfl (.tmp 28) (.tmp 30) 31 24 (.int .i64 0) 1 8 Try.underlying31 errInfo rfl (by omega) (by omega) (by rfl) ad2 k q2 (w4.heap.size) xs2 [.int .i64 er] (B1 := [_, _, _, _, _, _, _]) (by rfl) (HF.out) (by rfl) HC.out rfl (by simp [Value.oneCell']) (by omega) ?_
          intro ad2n q2n w5 hf hsz
          have HF := Lib.hid hf
          clear hf hsz
          refine hK.out _ _ (fun _ => doS_of (HF.out) (by simp [hallE]) (by simp [eT])) ?_
          clear hK K
          try simp only [Act.put]
          try simp only [List.setIfInBounds_toArray]
          try simp only [List.set_cons_succ]
          try simp only [List.set_cons_zero]
          refine wpAnyU_ready (rs := [11]) (by kernel_rfl) (by simp) ?_
          refine AllReadyU.cons rfl (fun K hK => ?_) AllReadyU.nil
          obtain ⟨gO, eO', -, -, cO, zO⟩ := HF.out.open (T := 33) (c := 1) (n := 2) (cap := 2) (ad := some ⟨O, 0, none⟩) (xs := [.slice ad1 k q1, .slice ad2 k q2]) (by simp) (by simp)
          cases eO'
          have c0 := cO 0 (by simp)
          have z0 := zO 0
          clear cO zO
          simp only [List.getElem?_cons_zero, List.getElem?_cons_succ] at c0
          go_simp
          have HF := Lib.hid (HF.out.setIn (B1 := [_, _, _, _, _, _, _, _]) 0 (.slice ad1n (k + 1) q1n))
          clear c0 z0
          refine hK.out _ _ (fun h => absurd h (by decide +kernel)) ?_
          clear hK K
          try simp only [Act.put]
          try simp only [List.setIfInBounds_toArray]
          try simp only [List.set_cons_succ]
          try simp only [List.set_cons_zero]
          refine wpAnyU_takeW (i := 12) (v := ?_) rfl (by kernel_rfl) (by kernel_rfl) (by kernel_rfl) (by kernel_rfl) (fun _ _ _ h => h) (Or.inl ⟨by rfl, ?_⟩) ?_
          rotate_left
          · intro w _; go_simp; try with_reducible rfl
          try simp only [Act.put]
          try simp only [List.setIfInBounds_toArray]
          try simp only [List.set_cons_succ]
          try simp only [List.set_cons_zero]
          refine wpAnyU_ready (rs := [13]) (by kernel_rfl) (by simp) ?_
          refine AllReadyU.cons rfl (fun K hK => ?_) AllReadyU.nil
          obtain ⟨gO, eO', -, -, cO, zO⟩ := HF.out.open (T := 33) (c := 1) (n := 2) (cap := 2) (ad := some ⟨O, 0, none⟩) (xs := [.slice ad1n (k + 1) q1n, .slice ad2 k q2]) (by simp) (by simp)
          cases eO'
          have c0 := cO 1 (by simp)
          have z0 := zO 1
          clear cO zO
          simp only [List.getElem?_cons_zero, List.getElem?_cons_succ] at c0
          go_simp
          have HF := Lib.hid (HF.out.setIn (B1 := [_, _, _, _, _, _, _, _]) 1 (.slice ad2n (k + 1) q2n))
          clear c0 z0
          refine hK.out _ _ (fun h => absurd h (by decide +kernel)) ?_
          clear hK K
          try simp only [Act.put]
          try simp only [List.setIfInBounds_toArray]
          try simp only [List.set_cons_succ]
          try simp only [List.set_cons_zero]
          refine wpAnyU_done (by kernel_rfl) ?_ _
          have HN := Lib.hid (HE.out _ _ _ _ _ (HF.out.sub (.cons _ (.cons _ (.cons _ (List.Sublist.refl _))))))
          clear hSd HF
          go_wp2_with fail
          exact ⟨⟨k + 1, ad1n, ad2n, q1n, q2n, by omega, by simp, HN⟩, by simp only [intOf]; omega⟩
        refine AllReadyU.cons rfl (fun K hK => ?_) AllReadyU.nil
        go_simp
        have HF := Lib.hid (HF.out.new 24 #[.int .i64 er] [.int .i64 er] rfl (W.heap.size + 1) (by simp) 1 rfl (by omega))
        refine hK.out _ _ (fun _ => doS_of (HF.out.drew) (by simp [hallE]) (by simp [eT])) ?_
        clear hK K
        try simp only [Act.put]
        try simp only [List.setIfInBounds_toArray]
        try simp only [List.set_cons_succ]
        try simp only [List.set_cons_zero]
        refine wpAnyU_ready (rs := [4]) (by kernel_rfl) (by simp) ?_
        refine AllReadyU.cons rfl (fun K hK => ?_) AllReadyU.nil
        have HC := Lib.hid (cellsT (HF.out.drew) (N := W.heap.size) (nm := nm) (nn := nn) (by simp [hallE]))
        refine step_pushI rfl (.tmp 23) (.tmp 25) 30 35 (.agg #[.string ByteArray.empty, .int .i64 0]) 2 24 Try.underlying30 toldInfo rfl (by omega) (by omega) (by rfl) ad1 k q1 (W.heap.size) xs1 [.string nm, .int .i64 nn] (B1 := [_, _, _, _, _, _]) (by rfl) (HF.out.drew) (by rfl) HC.out rfl (by simp [Value.oneCell']) (by omega) ?_
        intro ad1n q1n w4 hf hsz
        have HF := Lib.hid hf
        clear hf hsz
        refine hK.out _ _ (fun _ => doS_of (HF.out) (by simp [hallE]) (by simp [eT])) ?_
        clear hK K
        try simp only [Act.put]
        try simp only [List.setIfInBounds_toArray]
        try simp only [List.set_cons_succ]
        try simp only [List.set_cons_zero]
        refine wpAnyU_takeY (i := 10) (v := ?_) rfl (by kernel_rfl) (by kernel_rfl) (by kernel_rfl) (by kernel_rfl) (fun _ _ _ h => h) (Or.inl ⟨by rfl, ?_⟩) (doS_of (HF.out) (by simp [hallE]) (by simp [eT])) ?_
        rotate_left
        · intro w _; go_simp; try with_reducible rfl
        try simp only [Act.put]
        try simp only [List.setIfInBounds_toArray]
        try simp only [List.set_cons_succ]
        try simp only [List.set_cons_zero]
        refine wpAnyU_ready (rs := [9]) (by kernel_rfl) (by simp) ?_
        refine AllReadyU.cons rfl (fun K hK => ?_) AllReadyU.nil
        have HC := Lib.hid (cellsE (HF.out) (N := W.heap.size + 1) (er := er) (by simp [hallE]))
        refine step_pushI rfl (.tmp 28) (.tmp 30) 31 24 (.int .i64 0) 1 8 Try.underlying31 errInfo rfl (by omega) (by omega) (by rfl) ad2 k q2 (W.heap.size + 1) xs2 [.int .i64 er] (B1 := [_, _, _, _, _, _, _]) (by rfl) (HF.out) (by rfl) HC.out rfl (by simp [Value.oneCell']) (by omega) ?_
        intro ad2n q2n w5 hf hsz
        have HF := Lib.hid hf
        clear hf hsz
        refine hK.out _ _ (fun _ => doS_of (HF.out) (by simp [hallE]) (by simp [eT])) ?_
        clear hK K
        try simp only [Act.put]
        try simp only [List.setIfInBounds_toArray]
        try simp only [List.set_cons_succ]
        try simp only [List.set_cons_zero]
        refine wpAnyU_ready (rs := [11]) (by kernel_rfl) (by simp) ?_
        refine AllReadyU.cons rfl (fun K hK => ?_) AllReadyU.nil
        obtain ⟨gO, eO', -, -, cO, zO⟩ := HF.out.open (T := 33) (c := 1) (n := 2) (cap := 2) (ad := some ⟨O, 0, none⟩) (xs := [.slice ad1 k q1, .slice ad2 k q2]) (by simp) (by simp)
        cases eO'
        have c0 := cO 0 (by simp)
        have z0 := zO 0
        clear cO zO
        simp only [List.getElem?_cons_zero, List.getElem?_cons_succ] at c0
        go_simp
        have HF := Lib.hid (HF.out.setIn (B1 := [_, _, _, _, _, _, _, _]) 0 (.slice ad1n (k + 1) q1n))
        clear c0 z0
        refine hK.out _ _ (fun h => absurd h (by decide +kernel)) ?_
        clear hK K
        try simp only [Act.put]
        try simp only [List.setIfInBounds_toArray]
        try simp only [List.set_cons_succ]
        try simp only [List.set_cons_zero]
        refine wpAnyU_takeW (i := 12) (v := ?_) rfl (by kernel_rfl) (by kernel_rfl) (by kernel_rfl) (by kernel_rfl) (fun _ _ _ h => h) (Or.inl ⟨by rfl, ?_⟩) ?_
        rotate_left
        · intro w _; go_simp; try with_reducible rfl
        try simp only [Act.put]
        try simp only [List.setIfInBounds_toArray]
        try simp only [List.set_cons_succ]
        try simp only [List.set_cons_zero]
        refine wpAnyU_ready (rs := [13]) (by kernel_rfl) (by simp) ?_
        refine AllReadyU.cons rfl (fun K hK => ?_) AllReadyU.nil
        obtain ⟨gO, eO', -, -, cO, zO⟩ := HF.out.open (T := 33) (c := 1) (n := 2) (cap := 2) (ad := some ⟨O, 0, none⟩) (xs := [.slice ad1n (k + 1) q1n, .slice ad2 k q2]) (by simp) (by simp)
        cases eO'
        have c0 := cO 1 (by simp)
        have z0 := zO 1
        clear cO zO
        simp only [List.getElem?_cons_zero, List.getElem?_cons_succ] at c0
        go_simp
        have HF := Lib.hid (HF.out.setIn (B1 := [_, _, _, _, _, _, _, _]) 1 (.slice ad2n (k + 1) q2n))
        clear c0 z0
        refine hK.out _ _ (fun h => absurd h (by decide +kernel)) ?_
        clear hK K
        try simp only [Act.put]
        try simp only [List.setIfInBounds_toArray]
        try simp only [List.set_cons_succ]
        try simp only [List.set_cons_zero]
        refine wpAnyU_done (by kernel_rfl) ?_ _
        have HN := Lib.hid (HE.out _ _ _ _ _ (HF.out.sub (.cons _ (.cons _ (.cons _ (List.Sublist.refl _))))))
        clear hSd HF
        go_wp2_with fail
        exact ⟨⟨k + 1, ad1n, ad2n, q1n, q2n, by omega, by simp, HN⟩, by simp only [intOf]; omega⟩
      refine AllReadyU.cons rfl (fun K hK => ?_) AllReadyU.nil
      go_simp
      have HF := Lib.hid (HF.out.new 24 #[.int .i64 er] [.int .i64 er] rfl (W.heap.size) (by simp) 1 rfl (by omega))
      refine hK.out _ _ (fun _ => doS_of (HF.out.drew) (by simp [hallE]) (by simp [eT])) ?_
      clear hK K
      try simp only [Act.put]
      try simp only [List.setIfInBounds_toArray]
      try simp only [List.set_cons_succ]
      try simp only [List.set_cons_zero]
      refine wpAnyU_ready (rs := [3]) (by kernel_rfl) (by simp) ?_
      refine AllReadyU.cons rfl (fun K hK => ?_) AllReadyU.nil
      go_simp
      have HF := Lib.hid (HF.out.new 35 #[.string nm, .int .i64 nn] [.string nm, .int .i64 nn] rfl (W.heap.size + 1) (by simp) 2 rfl (by omega))
      refine hK.out _ _ (fun _ => doS_of (HF.out.drew) (by simp [hallE]) (by simp [eT])) ?_
      clear hK K
      try simp only [Act.put]
      try simp only [List.setIfInBounds_toArray]
      try simp only [List.set_cons_succ]
      try simp only [List.set_cons_zero]
      refine wpAnyU_ready (rs := [4]) (by kernel_rfl) (by simp) ?_
      refine AllReadyU.cons rfl (fun K hK => ?_) AllReadyU.nil
      have HC := Lib.hid (cellsT (HF.out.drew) (N := W.heap.size + 1) (nm := nm) (nn := nn) (by simp [hallE]))
      refine step_pushI rfl (.tmp 23) (.tmp 25) 30 35 (.agg #[.string ByteArray.empty, .int .i64 0]) 2 24 Try.underlying30 toldInfo rfl (by omega) (by omega) (by rfl) ad1 k q1 (W.heap.size + 1) xs1 [.string nm, .int .i64 nn] (B1 := [_, _, _, _, _, _]) (by rfl) (HF.out.drew) (by rfl) HC.out rfl (by simp [Value.oneCell']) (by omega) ?_
      intro ad1n q1n w4 hf hsz
      have HF := Lib.hid hf
      clear hf hsz
      refine hK.out _ _ (fun _ => doS_of (HF.out) (by simp [hallE]) (by simp [eT])) ?_
      clear hK K
      try simp only [Act.put]
      try simp only [List.setIfInBounds_toArray]
      try simp only [List.set_cons_succ]
      try simp only [List.set_cons_zero]
      refine wpAnyU_takeY (i := 10) (v := ?_) rfl (by kernel_rfl) (by kernel_rfl) (by kernel_rfl) (by kernel_rfl) (fun _ _ _ h => h) (Or.inl ⟨by rfl, ?_⟩) (doS_of (HF.out) (by simp [hallE]) (by simp [eT])) ?_
      rotate_left
      · intro w _; go_simp; try with_reducible rfl
      try simp only [Act.put]
      try simp only [List.setIfInBounds_toArray]
      try simp only [List.set_cons_succ]
      try simp only [List.set_cons_zero]
      refine wpAnyU_ready (rs := [9]) (by kernel_rfl) (by simp) ?_
      refine AllReadyU.cons rfl (fun K hK => ?_) AllReadyU.nil
      have HC := Lib.hid (cellsE (HF.out) (N := W.heap.size) (er := er) (by simp [hallE]))
      refine step_pushI rfl (.tmp 28) (.tmp 30) 31 24 (.int .i64 0) 1 8 Try.underlying31 errInfo rfl (by omega) (by omega) (by rfl) ad2 k q2 (W.heap.size) xs2 [.int .i64 er] (B1 := [_, _, _, _, _, _, _]) (by rfl) (HF.out) (by rfl) HC.out rfl (by simp [Value.oneCell']) (by omega) ?_
      intro ad2n q2n w5 hf hsz
      have HF := Lib.hid hf
      clear hf hsz
      refine hK.out _ _ (fun _ => doS_of (HF.out) (by simp [hallE]) (by simp [eT])) ?_
      clear hK K
      try simp only [Act.put]
      try simp only [List.setIfInBounds_toArray]
      try simp only [List.set_cons_succ]
      try simp only [List.set_cons_zero]
      refine wpAnyU_ready (rs := [11]) (by kernel_rfl) (by simp) ?_
      refine AllReadyU.cons rfl (fun K hK => ?_) AllReadyU.nil
      obtain ⟨gO, eO', -, -, cO, zO⟩ := HF.out.open (T := 33) (c := 1) (n := 2) (cap := 2) (ad := some ⟨O, 0, none⟩) (xs := [.slice ad1 k q1, .slice ad2 k q2]) (by simp) (by simp)
      cases eO'
      have c0 := cO 0 (by simp)
      have z0 := zO 0
      clear cO zO
      simp only [List.getElem?_cons_zero, List.getElem?_cons_succ] at c0
      go_simp
      have HF := Lib.hid (HF.out.setIn (B1 := [_, _, _, _, _, _, _, _]) 0 (.slice ad1n (k + 1) q1n))
      clear c0 z0
      refine hK.out _ _ (fun h => absurd h (by decide +kernel)) ?_
      clear hK K
      try simp only [Act.put]
      try simp only [List.setIfInBounds_toArray]
      try simp only [List.set_cons_succ]
      try simp only [List.set_cons_zero]
      refine wpAnyU_takeW (i := 12) (v := ?_) rfl (by kernel_rfl) (by kernel_rfl) (by kernel_rfl) (by kernel_rfl) (fun _ _ _ h => h) (Or.inl ⟨by rfl, ?_⟩) ?_
      rotate_left
      · intro w _; go_simp; try with_reducible rfl
      try simp only [Act.put]
      try simp only [List.setIfInBounds_toArray]
      try simp only [List.set_cons_succ]
      try simp only [List.set_cons_zero]
      refine wpAnyU_ready (rs := [13]) (by kernel_rfl) (by simp) ?_
      refine AllReadyU.cons rfl (fun K hK => ?_) AllReadyU.nil
      obtain ⟨gO, eO', -, -, cO, zO⟩ := HF.out.open (T := 33) (c := 1) (n := 2) (cap := 2) (ad := some ⟨O, 0, none⟩) (xs := [.slice ad1n (k + 1) q1n, .slice ad2 k q2]) (by simp) (by simp)
      cases eO'
      have c0 := cO 1 (by simp)
      have z0 := zO 1
      clear cO zO
      simp only [List.getElem?_cons_zero, List.getElem?_cons_succ] at c0
      go_simp
      have HF := Lib.hid (HF.out.setIn (B1 := [_, _, _, _, _, _, _, _]) 1 (.slice ad2n (k + 1) q2n))
      clear c0 z0
      refine hK.out _ _ (fun h => absurd h (by decide +kernel)) ?_
      clear hK K
      try simp only [Act.put]
      try simp only [List.setIfInBounds_toArray]
      try simp only [List.set_cons_succ]
      try simp only [List.set_cons_zero]
      refine wpAnyU_done (by kernel_rfl) ?_ _
      have HN := Lib.hid (HE.out _ _ _ _ _ (HF.out.sub (.cons _ (.cons _ (.cons _ (List.Sublist.refl _))))))
      clear hSd HF
      go_wp2_with fail
      exact ⟨⟨k + 1, ad1n, ad2n, q1n, q2n, by omega, by simp, HN⟩, by simp only [intOf]; omega⟩
    · obtain rfl : k = n := by omega
      obtain ⟨am, cm, al, cl, hf⟩ := HW.out
      obtain ⟨gO, e, -, -, cO, -⟩ := hf.open (T := 33) (c := 1) (n := 2) (cap := 2) (ad := some ⟨O, 0, none⟩) (xs := [.slice ad1 k q1, .slice ad2 k q2]) (by simp [hallE]) (by simp)
      cases e
      obtain ⟨gR, e, -, -, cR, zR⟩ := hf.open (T := 33) (c := 1) (n := 2) (cap := 2) (ad := some ⟨R, 0, none⟩) (xs := [.slice none 0 0, .slice none 0 0]) (by simp [hallE]) (by simp)
      cases e
      have x0 := cO 0 (by simp); have x1 := cO 1 (by simp); have y0 := cR 0 (by simp); have y1 := cR 1 (by simp); have z0 := zR 0; have z1 := zR 1
      simp only [List.getElem?_cons_zero, List.getElem?_cons_succ] at x0 x1 y0 y1
      have hfe := (hf.setIn (B1 := [_, _, _, _, _, _]) 0 (.slice ad1 k q1)).setIn (B1 := [_, _, _, _, _, _]) 1 (.slice ad2 k q2)
      obtain ⟨gR', e, -, -, cR', -⟩ := hfe.open (T := 33) (c := 1) (n := 2) (cap := 2) (ad := some ⟨R, 0, none⟩) (xs := [.slice ad1 k q1, .slice ad2 k q2]) (by simp [hallE]) (by simp)
      cases e
      have u0 := cR' 0 (by simp); have u1 := cR' 1 (by simp)
      simp only [List.getElem?_cons_zero, List.getElem?_cons_succ] at u0 u1
      have HQ : Hid (DoneIs w.heap.size (runR ⟨[], []⟩ D) (.agg #[.slice ad1 k q1, .slice ad2 k q2]) ((wr.setCell ⟨R, 0, none⟩ (.slice ad1 k q1)).setCell ⟨R, 1, none⟩ (.slice ad2 k q2))) := Lib.hid (by
        have e1 : (runR ⟨[], []⟩ D).length = k := by rw [runR_len, HD.out.len]
        have e2 : D.take k = D := List.take_of_length_le (by rw [HD.out.len]; exact Nat.le_refl _)
        rw [e2] at hfe
        refine ⟨ad1, q1, ad2, q2, by rw [e1], ?_, ?_⟩
        · exact SxI.of hfe (T := 35) (c := 2) (n := k) (cap := q1) (by simp)
        · exact SxI.of hfe (T := 24) (c := 1) (n := k) (cap := q2) (by simp))
      clear cO cR zR cR' hfe hf
      go_wp2_with fail
      refine bodyPost_ret (v := .agg #[.slice ad1 k q1, .slice ad2 k q2]) ?_ ?_ ?_
      rotate_left
      · rfl
      · exact ⟨_, rfl, HQ.out⟩
      simp [results, Try.results10, go_sem, u0, u1]
end Go.Proofs.Ytjplnkkcmkpkbaa
