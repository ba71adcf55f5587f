/- Several of my texts in one: Dsk8, DskE, DskP. -/
import Derived.Test.YtbolgfiafbhicaaDoorDF42
import Derived.Defers
import Derived.Recover
import Derived.Test.YtbolgfiafbhicaaDoorDF41
import Derived.Test.YtbolgfiafbhicaaDoorShelf
import Derived.Test.YtbolgfiafbhicaaDoorDF17
/- The deferred closure of answer. -/
namespace Go.Proofs.YtbolgfiafbhicaaDoor
open Go.RowKit

def errB (e : Int) : ByteArray := bs ([101, 114, 114, 111, 114, 32] ++ Lib.itoa e)
set_option maxRecDepth 100000 in
set_option maxHeartbeats 8000000 in
theorem catch_idle (p : Addr) (w : World) :
    CallsD Tryd.prog 16 #[.pointer (some p)] .returning w fun e u' w' => e = .returned (.tuple #[]) ∧ u' = .returning ∧ w' = w := by
  refine callsD_of_wpS Tryd.func16 rfl fun c₀ cs hu => ?_
  apply wpS_seq
  apply wpS_region
  simp [wpOpsS, go_sem, recoverD, hu, Tryd.ntmps16, Exit.thenS]
  apply wpS_seq
  apply wpS_region
  simp [wpOpsS, go_sem, recoverD, hu, Exit.thenS]
  refine wpS_cond (t := false) (by simp [Act.eval, Array.replicate]) ?_
  simp only [Bool.false_eq_true, if_false]
  refine wpS_of_wp (wp_skip ?_)
  cases c₀
  simp_all [bodyPostS, results, Tryd.results16]
set_option maxRecDepth 100000 in
set_option maxHeartbeats 8000000 in
theorem catch_err (O : Nat) (er : Int) (h0 : -9223372036854775808 ≤ er) (h1 : er ≤ 9223372036854775807) (x : ByteArray) (w : World) (ht : TabW w) (hc : w.cell? ⟨O, 0, none⟩ = some (.string x)) (hz : w.frozen? ⟨O, 0, none⟩ = false) (hp : O < w.heap.size) :
    CallsD Tryd.prog 16 #[.pointer (some ⟨O, 0, none⟩)] (.panicking (refL er)) w fun e u' w' =>
      e = .returned (.tuple #[]) ∧ u' = .panicking [{ v := .iface 46 (.agg #[.int .i64 er]), recovered := true }] ∧ ∃ w2, Fr w w2 [] ∧ w' = w2.setCell ⟨O, 0, none⟩ (.string (errB er)) := by
  have hsz : (bs (Lib.itoa er)).size ≤ 21 := by rw [bs_size]; exact Lib.itoa_length_le er h0 h1
  have HI := Lib.hid (itoaC er h0 h1 w ht)
  have HW : Hid (∀ w', Fr w w' [] → w'.cell? ⟨O, 0, none⟩ = some (.string x) ∧ w'.frozen? ⟨O, 0, none⟩ = false) := Lib.hid fun w' hf => ⟨((bcell hf.bel).1 O 0 hp).trans hc, ((bcell hf.bel).2 O 0 hp).trans hz⟩
  clear ht hc hz hp
  refine callsD_of_wpS Tryd.func16 rfl fun c₀ cs hu => ?_
  unfold refL at hu
  apply wpS_seq
  apply wpS_region
  simp [wpOpsS, go_sem, recoverD, hu, Tryd.ntmps16, Exit.thenS]
  apply wpS_seq
  apply wpS_region
  simp [wpOpsS, go_sem, recoverD, Exit.thenS]
  refine wpS_cond (t := true) (by simp [Act.eval, Array.replicate]) ?_
  simp only [if_true]
  refine wpS_of_wp ?_
  obtain ⟨V, hV⟩ : ∃ V, V = Value.iface 46 (Value.agg #[Value.int IntKind.i64 er]) := ⟨_, rfl⟩
  rw [← hV]
  rw [show (#[Value.pointer (some ⟨O, 0, none⟩)] ++ ((((Array.replicate 9 undef).setIfInBounds 1 V).setIfInBounds 0 V).setIfInBounds 2 V).setIfInBounds 3 (Value.bool true)) = #[Value.pointer (some ⟨O, 0, none⟩), V, V, V, Value.bool true, undef, undef, undef, undef, undef] from rfl]
  subst hV
  have hta : ∀ (v : Value) (w : World), Sem.run Tryd.prog (Instr.typeAssert (.iface 46 v) 20 46 false) w = .ok v w := fun v w => by kernel_rfl
  have hfd : ∀ (x : Int) (w : World), Sem.run Tryd.prog (Instr.field 46 (.agg #[.int .i64 x]) 0) w = .ok (.int .i64 x) w := fun x w => by kernel_rfl
  go_wp2_with fail
  refine HI.out.mono ?_; rintro e w2 ⟨rfl, hf⟩
  obtain ⟨hc2, hz2⟩ := HW.out _ hf
  have HF := Lib.hid hf
  clear hf HI HW
  go_wp2_with fail
  refine ⟨rfl, _, rfl, .tuple #[], by simp [results, Tryd.results16, go_sem], rfl, rfl, w2, HF.out, ?_⟩
  unfold errB
  rw [show (⟨#[101, 114, 114, 111, 114, 32]⟩ : ByteArray) = bs [101, 114, 114, 111, 114, 32] from rfl, bs_app]
end Go.Proofs.YtbolgfiafbhicaaDoor
/- The desk: how great the errors are; strings.Join in the desk's words (no program in sight but the shelf). -/
namespace Go.Proofs.YtbolgfiafbhicaaDoor
open Go.RowKit

def EB (o : Ou) : Prop := ∀ er, o = .error er → 0 ≤ er ∧ er ≤ 10
theorem EB.okE (b : ByteArray) : EB (.ok b) := fun er h => by cases h
theorem EB.errE {e : Int} (h : 0 ≤ e ∧ e ≤ 10) : EB (.error e) := fun er h2 => by cases h2; exact h
theorem ckE_bd (M : Int) : ∀ (p : List Int) (pv s : Int), 0 ≤ ckE M pv s p ∧ ckE M pv s p ≤ 3
  | [], pv, s => by simp [ckE]
  | x :: r, pv, s => by
    rw [ckE]
    split
    · omega
    split
    · omega
    split
    · omega
    · exact ckE_bd M r x (s + x)
theorem eb_rank (o : Option (List Int)) : EB (rankO o) := by
  cases o with
  | none => exact EB.errE (by omega)
  | some p =>
    rw [rankO]
    split
    · exact EB.okE _
    · refine EB.errE ?_
      unfold chkP
      split
      · omega
      split <;> omega
theorem eb_order (o : Option (List Int)) : EB (orderO o) := by
  unfold orderO
  split
  · split
    · exact EB.okE _
    · exact EB.errE (by omega)
  · exact EB.errE (by omega)
theorem eb_turn (o : Option (List Int)) : EB (turnO o) := by
  cases o with
  | none => exact EB.errE (by omega)
  | some p =>
    rw [turnO]
    split
    · exact EB.okE _
    · exact EB.errE (by have := ckE_bd 40 p 40 0; omega)
theorem eb_shap (o : Option (List Int)) : EB (shapO o) := by
  cases o with
  | none => exact EB.errE (by omega)
  | some p =>
    rw [shapO]
    split
    · exact EB.okE _
    · exact EB.errE (by have := ckE_bd 12 p 12 0; omega)
theorem eb_nest (o : Option (List Int)) : EB (nestO o) := by
  unfold nestO
  split
  · split
    · exact EB.okE _
    · exact EB.errE (by omega)
  · exact EB.errE (by omega)
theorem eb_sum (o : Option (List Int)) : EB (sumO o) := by
  unfold sumO
  split
  · split
    · exact EB.errE (by omega)
    split
    · exact EB.errE (by omega)
    · unfold addA
      split
      · exact EB.okE _
      · exact EB.errE (by omega)
  · exact EB.errE (by omega)
theorem eb_ask (w : ByteArray) (l : List ByteArray) : EB (askR w l) := by
  unfold askR
  split
  · exact eb_rank _
  split
  · exact eb_order _
  split
  · exact eb_turn _
  split
  · exact eb_shap _
  split
  · exact eb_nest _
  split
  · exact eb_sum _
  · exact EB.errE (by omega)
theorem wonS_er (s : HSt) (r : Int × Int) (h : 0 ≤ r.2 ∧ r.2 ≤ 10) : 0 ≤ (wonS s r).er ∧ (wonS s r).er ≤ 10 := by
  unfold wonS
  split
  · split
    · exact ⟨Int.le_refl _, by show (0 : Int) ≤ 10; omega⟩
    · exact ⟨Int.le_refl _, by show (0 : Int) ≤ 10; omega⟩
  · exact h
theorem doS_er (s : HSt) (k n : Int) (nm tn : ByteArray) : 0 ≤ (doS s k n nm tn).er ∧ (doS s k n nm tn).er ≤ 10 := by
  unfold doS
  split
  · refine wonS_er _ _ ?_
    unfold winW
    split
    · exact ⟨by show (0 : Int) ≤ 4; omega, by show (4 : Int) ≤ 10; omega⟩
    split
    · exact ⟨by show (0 : Int) ≤ 1; omega, by show (1 : Int) ≤ 10; omega⟩
    · exact ⟨Int.le_refl _, by show (0 : Int) ≤ 10; omega⟩
  split
  · refine wonS_er _ _ ?_
    unfold nextW
    split
    · exact ⟨by show (0 : Int) ≤ 1; omega, by show (1 : Int) ≤ 10; omega⟩
    split
    · exact ⟨by show (0 : Int) ≤ 4; omega, by show (4 : Int) ≤ 10; omega⟩
    · exact ⟨Int.le_refl _, by show (0 : Int) ≤ 10; omega⟩
  split
  · split
    · exact ⟨by show (0 : Int) ≤ 3; omega, by show (3 : Int) ≤ 10; omega⟩
    split
    · show 0 ≤ joinE s (fiV nm s.M) n ∧ joinE s (fiV nm s.M) n ≤ 10
      unfold joinE
      repeat' split
      all_goals omega
    split
    · rename_i m hm
      unfold atSH
      split
      · show 0 ≤ leaveE s m ∧ leaveE s m ≤ 10
        unfold leaveE
        split <;> omega
      split
      · show 0 ≤ lendE s _ n tn ∧ lendE s _ n tn ≤ 10
        unfold lendE
        repeat' split
        all_goals omega
      split
      · exact ⟨Int.le_refl _, by show (0 : Int) ≤ 10; omega⟩
      · exact ⟨Int.le_refl _, by show (0 : Int) ≤ 10; omega⟩
    · exact ⟨by show (0 : Int) ≤ 4; omega, by show (4 : Int) ≤ 10; omega⟩
  · exact ⟨by show (0 : Int) ≤ 1; omega, by show (1 : Int) ≤ 10; omega⟩
theorem eb_deed (s : HSt) (k : Int) (l : List ByteArray) : EB (deedR s k l).2 := by
  unfold deedR
  split
  · exact EB.errE (by omega)
  · show EB (tellB k _)
    unfold tellB
    split
    · exact EB.errE (doS_er _ _ _ _ _)
    split
    · exact EB.okE _
    · exact EB.okE _
theorem lens_bd : ∀ (l : List ByteArray), (∀ x ∈ l, x.size ≤ 1000) → Lib.lens (l.map (·.data.toList)) ≤ 1000 * l.length
  | [], _ => by simp [Lib.lens]
  | x :: r, h => by
    have h1 := h x List.mem_cons_self
    have h2 := lens_bd r (fun y hy => h y (List.mem_cons_of_mem _ hy))
    have e : x.data.toList.length = x.size := by rw [Array.length_toList]; rfl
    simp only [List.map_cons, Lib.lens, List.length_cons] at h2 ⊢
    simp only [List.map_map, List.sum_cons] at h2 ⊢
    omega
theorem join_bd (l : List ByteArray) (h : ∀ x ∈ l, x.size ≤ 1000) : (Lib.join (l.map (·.data.toList)) [32]).length ≤ 1001 * l.length := by
  cases l with
  | nil => simp [Lib.join_nil]
  | cons x r =>
    rw [List.map_cons, Lib.join_length, ← List.map_cons (f := fun y : ByteArray => y.data.toList)]
    have := lens_bd (x :: r) h
    simp only [List.length_map, List.length_cons, List.length_nil, Nat.zero_add, Nat.one_mul] at this ⊢
    omega
theorem joinC (l : List ByteArray) (n : Nat) (a : Option Addr) (cap : Nat) (w : World) (h : Sa w a (strV l)) (hn : l.length = n) (hc : n ≤ cap) (hm : n ≤ 1000) (hl : ∀ x ∈ l, x.size ≤ 1000) :
    Calls Tryd.prog 19 #[.slice a n cap, .string ⟨#[32]⟩] w fun e w' => e = .returned (.string (bs (Lib.join (l.map (·.data.toList)) [32]))) ∧ Below w.heap.size w w' := by
  cases l with
  | nil =>
    subst hn
    refine (Tryd.strings_Join_none a cap ⟨#[32]⟩ w).mono ?_
    rintro e w' ⟨rfl, rfl⟩
    exact ⟨rfl, Below.refl _ _⟩
  | cons x r =>
    subst hn
    obtain ⟨b, off, rfl, hb, -⟩ := h.strA 0 x rfl
    refine (Tryd.strings_Join b off cap (x :: r) ⟨#[32]⟩ w (fun j y hy => ?_) hb (by omega) hc ?_).mono ?_
    · obtain ⟨_, _, e, -, hy2⟩ := h.strA j y hy
      cases e
      exact hy2
    · have := join_bd (x :: r) hl
      show (Lib.join _ [32]).length ≤ _
      omega
    · rintro e w' ⟨rfl, hbl⟩
      exact ⟨rfl, hbl⟩
end Go.Proofs.YtbolgfiafbhicaaDoor
/- The desk: the two texts that the laws name (no program in sight). -/
namespace Go.Proofs.YtbolgfiafbhicaaDoor
open Go.RowKit

def txtF : ByteArray := ⟨#[106, 111, 105, 110, 32, 97, 32, 50, 10, 106, 111, 105, 110, 32, 98, 32, 49, 10, 100, 114, 97, 119, 32, 50, 10, 108, 101, 110, 100, 32, 97, 32, 98, 32, 49, 10, 102, 97, 105, 114, 10, 110, 111, 10, 110, 97, 109, 101, 115]⟩
def outF : List ByteArray := [bs [111, 107], bs [111, 107], bs [98, 32, 49], bs [111, 107], bs [97, 32, 49], bs [101, 114, 114, 111, 114, 32, 49, 48], bs [58, 97, 32, 98]]
def txtC : ByteArray := ⟨#[114, 97, 110, 107, 32, 49, 32, 50, 32, 48, 10, 10, 111, 114, 100, 101, 114, 32, 51, 32, 51, 10, 116, 117, 114, 110, 101, 100, 32, 51, 32, 49, 10, 115, 104, 97, 112, 101, 115, 32, 50, 32, 49, 10, 115, 117, 109, 32, 49, 32, 50, 32, 49, 32, 51, 10, 110, 101, 115, 116, 32, 51, 32, 49]⟩
def outC : List ByteArray := [bs [51, 32, 46], bs [49, 32, 50, 32, 48, 32, 46], bs [50, 32, 49, 32, 49, 32, 46], bs [50, 32, 46], bs [53, 32, 54, 32, 46], bs [58, 40, 40, 41, 40, 41, 41]]
theorem linesF : linesB 10 txtF = [bs [106, 111, 105, 110, 32, 97, 32, 50], bs [106, 111, 105, 110, 32, 98, 32, 49], bs [100, 114, 97, 119, 32, 50], bs [108, 101, 110, 100, 32, 97, 32, 98, 32, 49], bs [102, 97, 105, 114], bs [110, 111], bs [110, 97, 109, 101, 115]] := by rw [linesB_eq]; kernel_rfl
theorem linesC : linesB 10 txtC = [bs [114, 97, 110, 107, 32, 49, 32, 50, 32, 48], bs [], bs [111, 114, 100, 101, 114, 32, 51, 32, 51], bs [116, 117, 114, 110, 101, 100, 32, 51, 32, 49], bs [115, 104, 97, 112, 101, 115, 32, 50, 32, 49], bs [115, 117, 109, 32, 49, 32, 50, 32, 49, 32, 51], bs [110, 101, 115, 116, 32, 51, 32, 49]] := by rw [linesB_eq]; kernel_rfl
theorem wordsR : wordsB (bs [114, 97, 110, 107, 32, 49, 32, 50, 32, 48]) = [wRank, bs [49], bs [50], bs [48]] := by unfold wordsB; rw [linesB_eq]; kernel_rfl
theorem isP120 : IsP [1, 2, 0] := isP_lit _ (by decide) (by decide)
theorem rankL (s : HSt) : ansR s (bs [114, 97, 110, 107, 32, 49, 32, 50, 32, 48]) = (s, bs [51, 32, 46]) := by
  have h : askR wRank [bs [49], bs [50], bs [48]] = .ok (bs [51, 32, 46]) := by
    unfold askR
    rw [if_pos rfl]
    have e : numsB [bs [49], bs [50], bs [48]] = some [1, 2, 0] := by kernel_rfl
    unfold rankA
    rw [e, rankO]
    have hc : chkP [1, 2, 0] = 0 := by unfold chkP; rw [if_neg (by decide), if_pos isP120]
    rw [if_pos hc]
    exact congrArg (Except.ok (ε := Int)) (show listB [ofC (codeL [1, 2, 0])] = bs [51, 32, 46] by kernel_rfl)
  unfold ansR
  rw [wordsR, ansO, if_neg (fun h => by cases h.1), if_pos (by kernel_rfl), h]
  rfl
theorem runF : runL ⟨[], []⟩ (linesB 10 txtF) = outF := by
  rw [linesF]
  kernel_rfl
theorem runC : runL ⟨[], []⟩ (linesB 10 txtC) = outC := by
  rw [linesC, runL, if_neg (by decide), rankL]
  kernel_rfl
end Go.Proofs.YtbolgfiafbhicaaDoor
