/- Several of my texts in one: Hal6, Hal7. -/
import Derived.Test.YtjplnkkcmkpkbaaMA36
import Derived.Deep.RegionLaw
set_option linter.unusedSimpArgs false
set_option linter.unusedVariables false
/- Is there a loan from or to a name? -/
namespace Go.Proofs.Ytjplnkkcmkpkbaa
open Go.RowKit

theorem Sa.loanA {w : World} {a : Option Addr} {l : List Loan} (h : Sa w a (rowsC loanC l)) (i : Nat) (m : Loan) (hi : l[i]? = some m) : ∃ b off, a = some ⟨b, off, none⟩ ∧ b < w.heap.size ∧
    w.cell? ⟨b, off + i * 3, none⟩ = some (.string m.fr) ∧ w.cell? ⟨b, off + i * 3 + 1, none⟩ = some (.string m.to) ∧ w.cell? ⟨b, off + i * 3 + 2, none⟩ = some (.int .i64 m.n) := by
  have hl : i < l.length := (List.getElem?_eq_some_iff.1 hi).1
  have hlen := rowsC_len loanC_len l
  obtain ⟨b, off, e, hb, hc⟩ := h (by rw [hlen]; omega)
  have key : ∀ j, j < 3 → w.cell? ⟨b, off + i * 3 + j, none⟩ = (loanC m)[j]? := fun j hj => by
    rw [Nat.add_assoc, hc (i * 3 + j) (by rw [hlen]; omega), rowsC_get loanC_len l i j m hi hj]
  exact ⟨b, off, e, hb, key 0 (by omega), key 1 (by omega), key 2 (by omega)⟩
def tied (nm : ByteArray) (x : Loan) : Bool := decide (x.fr = nm) || decide (x.to = nm)
set_option maxRecDepth 100000 in
set_option maxHeartbeats 4000000 in
theorem halLeave1 (x : Loan) (nm : ByteArray) (B : Nat) (w : World) (hv : w.cell? ⟨B, 0, .none⟩ = some (.string nm)) (hB : B < w.heap.size) :
    Calls Try.prog 55 #[.agg #[.string x.fr, .string x.to, .int .i64 x.n], .pointer (some ⟨B, 0, .none⟩)] w fun e w' => e = .returned (.bool (tied nm x)) ∧ Fr w w' [] := by
  obtain ⟨f, t, v⟩ := x
  have hv' : (w.alloc (.cells #[.string f, .string t, .int .i64 v] 106)).cell? ⟨B, 0, .none⟩ = some (.string nm) := ((Fr.start w).alloc (.cells #[.string f, .string t, .int .i64 v] 106)).bel.cell (p := ⟨B, 0, .none⟩) hB |>.trans hv
  have HF := Lib.hid ((Fr.start w).alloc (.cells #[.string f, .string t, .int .i64 v] 106))
  have g1 := str_eq f nm
  have g2 := str_eq t nm
  by_cases h : f = nm
  · have e : tied nm ⟨f, t, v⟩ = true := by unfold tied; simp [h]
    rw [decide_eq_true h] at g1
    rw [e]
    clear e h
    go_enter Try.func55, Try.ntmps55
    go_wp2_with fail
    go_ret
    exact ⟨rfl, HF.out⟩
  · have e : tied nm ⟨f, t, v⟩ = decide (t = nm) := by unfold tied; simp [h]
    rw [decide_eq_false h] at g1
    rw [e]
    clear e h
    obtain ⟨b, hb⟩ : ∃ b, decide (t = nm) = b := ⟨_, rfl⟩
    rw [hb] at g2 ⊢
    clear hb
    go_enter Try.func55, Try.ntmps55
    go_wp2_with fail
    go_ret
    exact ⟨rfl, HF.out⟩
/-- is a loan of the first k from or to the name? -/
def anyT (nm : ByteArray) (l : List Loan) : Bool := l.any (tied nm)
theorem anyT_yes {nm : ByteArray} {l : List Loan} {i : Nat} {x : Loan} (h : l[i]? = some x) (ht : tied nm x = true) : anyT nm l = true :=
  List.any_eq_true.2 ⟨x, List.mem_of_getElem? h, ht⟩
theorem anyT_no {nm : ByteArray} {l : List Loan} (h : ∀ i x, i < l.length → l[i]? = some x → tied nm x = false) : anyT nm l = false := by
  apply Bool.eq_false_iff.2
  intro e
  obtain ⟨x, hx, ht⟩ := List.any_eq_true.1 e
  obtain ⟨i, hi, rfl⟩ := List.getElem_of_mem hx
  rw [h i _ hi (List.getElem?_eq_getElem hi)] at ht; cases ht
def FoundT (nm : ByteArray) (l : List Loan) (w : World) (e : Ending) (w' : World) : Prop := ∃ q : Int, e = .returned (.int .i64 q) ∧ ((0 ≤ q ∧ anyT nm l = true) ∨ (q < 0 ∧ anyT nm l = false)) ∧ Fr w w' []
set_option maxRecDepth 100000 in
set_option maxHeartbeats 4000000 in
theorem idxLoan (l : List Loan) (n : Nat) (a : Option Addr) (cap : Nat) (nm : ByteArray) (B : Nat) (w : World) (h : Sa w a (rowsC loanC l)) (hn : l.length = n) (hm : n ≤ maxLen)
    (hv : w.cell? ⟨B, 0, .none⟩ = some (.string nm)) (hB : B < w.heap.size) :
    Calls Try.prog 59 #[.slice a n cap, .func (.func 55) #[] #[.pointer (some ⟨B, 0, .none⟩)]] w (FoundT nm l w) := by
  have HN := Lib.hid hn; have HS := Lib.hid h; have HV := Lib.hid hv; have HB := Lib.hid hB
  unfold maxLen at hm
  clear hn h hv hB
  go_enter Try.func59, Try.ntmps59
  go_wp2_with fail
  go_loopw [8] (fun q wr => ∃ k : Nat, k ≤ n ∧ q = .int .i64 k ∧ Hid (∀ i x, i < k → l[i]? = some x → tied nm x = false) ∧ Hid (Fr w wr [])) (fun q _ => n - (intOf q).toNat)
  case atStart => exact ⟨0, by omega, rfl, Lib.hid (fun i _ hi => by omega), Lib.hid (Fr.start w)⟩
  case round =>
    obtain ⟨k, hk, rfl, HK, HF⟩ := hrel
    by_cases hlt : k < n
    · obtain ⟨m, hm2⟩ : ∃ m, l[k]? = some m := ⟨_, List.getElem?_eq_getElem (by rw [HN.out]; exact hlt)⟩
      obtain ⟨b, off, rfl, -, x1, x2, x3⟩ := (HF.out.old HS.out).loanA k m hm2
      have hcall := halLeave1 m nm B wr ((HF.out.bel.cell (p := ⟨B, 0, .none⟩) HB.out).trans HV.out) (Nat.lt_of_lt_of_le HB.out HF.out.bel.size)
      have HM2 := Lib.hid hm2
      clear hm2
      have d1 : (0 : Int) ≤ (k : Int) := by omega
      have d2 : (k : Int) < (n : Int) := by omega
      cases ht : tied nm m
      · rw [ht] at hcall
        have HC := Lib.hid hcall
        have HT := Lib.hid ht
        clear hcall ht
        go_wp2_with fail
        refine HC.out.mono ?_; rintro e w2 ⟨rfl, hf2⟩
        go_wp2_with fail
        go_roundw
        case rel => exact ⟨k + 1, by omega, by go_num, Lib.hid (fun i x hi e => by
          by_cases hik : i = k
          · subst hik
            rw [HM2.out] at e; cases e; exact HT.out
          · exact HK.out i x (by omega) e), Lib.hid (HF.out.keep hf2.bel)⟩
        case measure => simp only [intOf]; omega
      · rw [ht] at hcall
        have HC := Lib.hid hcall
        have HY := Lib.hid (anyT_yes HM2.out ht)
        clear hcall ht
        go_wp2_with fail
        refine HC.out.mono ?_; rintro e w2 ⟨rfl, hf2⟩
        go_wp2_with fail
        go_ret
        exact ⟨k, rfl, .inl ⟨by omega, HY.out⟩, HF.out.keep hf2.bel⟩
    · obtain rfl : k = n := by omega
      have HNO := Lib.hid (anyT_no (nm := nm) (l := l) (fun i x hi e => HK.out i x (by rw [HN.out] at hi; exact hi) e))
      go_wp2_with fail
      go_ret
      exact ⟨-1, rfl, .inr ⟨by decide, HNO.out⟩, HF.out⟩
set_option maxRecDepth 100000 in
set_option maxHeartbeats 4000000 in
theorem hasLoan (l : List Loan) (n : Nat) (a : Option Addr) (cap : Nat) (nm : ByteArray) (B : Nat) (w : World) (h : Sa w a (rowsC loanC l)) (hn : l.length = n) (hm : n ≤ maxLen)
    (hv : w.cell? ⟨B, 0, .none⟩ = some (.string nm)) (hB : B < w.heap.size) :
    Calls Try.prog 54 #[.slice a n cap, .func (.func 55) #[] #[.pointer (some ⟨B, 0, .none⟩)]] w fun e w' => e = .returned (.bool (anyT nm l)) ∧ Fr w w' [] := by
  have HC := Lib.hid (idxLoan l n a cap nm B w h hn hm hv hB)
  clear h hn hv hB
  go_enter Try.func54, Try.ntmps54
  go_wp2_with fail
  refine HC.out.mono ?_; rintro e w2 ⟨q, rfl, hq, hf⟩
  have HA : Hid (decide (0 ≤ q) = anyT nm l) := Lib.hid (by
    rcases hq with ⟨hq, ha⟩ | ⟨hq, ha⟩
    · rw [ha]; exact decide_eq_true hq
    · rw [ha]; exact decide_eq_false (by omega))
  have d := HA.out
  have HF := Lib.hid hf
  clear hf hq
  go_wp2_with fail
  go_ret
  exact ⟨rfl, HF.out⟩
end Go.Proofs.Ytjplnkkcmkpkbaa
/- slices.Delete of one struct. -/
namespace Go.Proofs.Ytjplnkkcmkpkbaa
open Go.RowKit

theorem rows_cells {α : Type} {f : α → List Value} (hf : ∀ x, ∀ u ∈ f x, u.oneCell' = true) : ∀ l : List α, ∀ u ∈ rowsC f l, u.oneCell' = true
  | [], u, hu => by simp [rowsC] at hu
  | x :: l, u, hu => by
    rcases List.mem_append.1 hu with h | h
    · exact hf x u h
    · exact rows_cells hf l u h
theorem run_clear1 (w : World) (t e ty : TypeId) (z : Value) (zs : List Value) (ht : Try.prog.underlying t = some (.slice e)) (hv : ∀ w, (zeroValue e).run Try.prog w = .ok z w) (hz : (Builtin.zeroCells z.cells 1).toList = zs) (h1 : ∀ u ∈ zs, u.oneCell' = true) (b o c : Nat)
    (hc : ∀ j, j < zs.length → (w.cell? ⟨b, o + j, none⟩).isSome = true) (hf : ∀ j, j < zs.length → w.frozen? ⟨b, o + j, none⟩ = false) :
    (Builtin.clear_ #[t] ty #[.slice (some ⟨b, o, none⟩) 1 c]).run Try.prog w = .ok (.tuple #[]) (w.setCells b o zs) := by
  have hst := run_storeCells_cells (P := Try.prog) b o zs 0 w (by simpa using hc) (by simpa using hf) h1
  simp only [Nat.add_zero] at hst
  simp [Builtin.clear_, run_underlying ht, hv, hz, hst]
theorem Fg.setCellsAt {w0 : World} {B : List Big} {T : TypeId} {c g n cap : Nat} : ∀ (vs pre : List Value) (w : World) (old post : List Value), Fg w0 w (⟨T, c, n, .slice (some ⟨g, 0, .none⟩) n cap, pre ++ (old ++ post)⟩ :: B) → vs.length = old.length →
    Fg w0 (w.setCells g pre.length vs) (⟨T, c, n, .slice (some ⟨g, 0, .none⟩) n cap, pre ++ (vs ++ post)⟩ :: B)
  | [], pre, w, old, post, h, hl => by
    rw [List.eq_nil_of_length_eq_zero hl.symm] at h; exact h
  | v :: vs, pre, w, [], post, h, hl => by simp at hl
  | v :: vs, pre, w, p :: old, post, h, hl => by
    have h1 := h.set pre.length v
    rw [List.set_append_right _ _ (Nat.le_refl _), Nat.sub_self, List.cons_append, List.set_cons_zero, show pre ++ v :: (old ++ post) = (pre ++ [v]) ++ (old ++ post) from by simp] at h1
    have h2 := Fg.setCellsAt vs (pre ++ [v]) _ old post h1 (by simpa using hl)
    rw [List.length_append, List.length_singleton] at h2
    rw [World.setCells, show pre ++ (v :: vs ++ post) = (pre ++ [v]) ++ (vs ++ post) from by simp]
    exact h2
/-- the first k elements of it -/
theorem Fg.cut {w0 w : World} {B : List Big} {T : TypeId} {c g n cap : Nat} {xs : List Value} (h : Fg w0 w (⟨T, c, n, .slice (some ⟨g, 0, .none⟩) n cap, xs⟩ :: B)) (k : Nat) (hk : k ≤ n) :
    Fg w0 w (⟨T, c, k, .slice (some ⟨g, 0, .none⟩) k cap, xs.take (k * c)⟩ :: B) := by
  have hf := List.pairwise_cons.1 h.far
  refine ⟨h.bel, fun e he => ?_, List.pairwise_cons.2 ⟨fun b hb => hf.1 b hb, hf.2⟩⟩
  rcases List.mem_cons.1 he with rfl | he
  · obtain ⟨h1, h2⟩ := h.own _ List.mem_cons_self
    have h1 : xs.length = n * c := h1
    have hkc : k * c ≤ n * c := Nat.mul_le_mul_right c hk
    refine ⟨?_, ?_⟩
    · show (xs.take (k * c)).length = k * c
      rw [List.length_take]; omega
    · rcases h2 with ⟨e, _⟩ | ⟨g', cap', cur, e, h3, h4, h5, h6, h7, h8⟩
      · cases e
      · have e : Value.slice (some ⟨g, 0, .none⟩) n cap = .slice (some ⟨g', 0, .none⟩) n cap' := e
        simp only [Value.slice.injEq, Option.some.injEq, Addr.mk.injEq, and_true, true_and] at e
        obtain ⟨rfl, rfl⟩ := e
        refine .inr ⟨g, cap, cur, rfl, h3, h4, Nat.le_trans hk h5, h6, h7, ?_⟩
        have h8 : cur.toList.take (n * c) = xs := h8
        show cur.toList.take (k * c) = xs.take (k * c)
        rw [← h8, List.take_take, Nat.min_eq_left hkc]
  · exact h.own e (List.mem_cons_of_mem _ he)
set_option maxRecDepth 100000 in
set_option maxHeartbeats 8000000 in
theorem delMem {w0 w : World} (M : List Mem) (g cap i n : Nat) (B : List Big) (h : Fg w0 w (eM (some ⟨g, 0, .none⟩) cap M :: B)) (hn : M.length = n) (hi : i < n) (hcap : n ≤ cap) :
    Calls Try.prog 56 #[.slice (some ⟨g, 0, .none⟩) n cap, .int .i64 i, .int .i64 ((i : Int) + 1)] w fun e w' => e = .returned (.slice (some ⟨g, 0, .none⟩) (n - 1) cap) ∧ Fg w0 w' (eM (some ⟨g, 0, .none⟩) cap (M.eraseIdx i) :: B) := by
  obtain ⟨i0, hi0, hz0, hz1, hz2⟩ := info_parts memInfo
  have hlen := rowsC_len memC_len M
  have hlenD := rowsC_len memC_len (M.drop (i + 1))
  rw [List.length_drop, hn] at hlenD
  obtain ⟨g', e, -, -, hcell, hfz⟩ := h.open (T := 90) (c := 3) (n := M.length) (cap := cap) (ad := some ⟨g, 0, .none⟩) (xs := rowsC memC M) List.mem_cons_self (by rw [hlen]; omega)
  cases e
  have hsplit : rowsC memC M = rowsC memC (M.take (i + 1)) ++ rowsC memC (M.drop (i + 1)) := by rw [← rowsC_app, List.take_append_drop]
  have hlenT := rowsC_len memC_len (M.take (i + 1))
  rw [List.length_take, hn] at hlenT
  have hat : ∀ (j : Nat) (u : Value), (rowsC memC (M.drop (i + 1)))[j]? = some u → w.cell? ⟨g, (i + 1) * 3 + j, .none⟩ = some u := fun j u hj => by
    have hj' := (List.getElem?_eq_some_iff.1 hj).1
    rw [hlenD] at hj'
    rw [hcell ((i + 1) * 3 + j) (by rw [hlen, hn]; omega), hsplit, List.getElem?_append_right (by rw [hlenT]; omega), hlenT, show (i + 1) * 3 + j - min (i + 1) n * 3 = j by omega]
    exact hj
  obtain ⟨A, hA, hnews⟩ : ∃ A, (if cap = i + 1 then some (⟨g, 0, .none⟩ : Addr) else some ⟨g, (i + 1) * 3, .none⟩) = some A ∧ ∀ (j : Nat) (u : Value), (rowsC memC (M.drop (i + 1)))[j]? = some u → w.drew.cell? (A.add j) = some u := by
    by_cases hc : cap = i + 1
    · refine ⟨_, by rw [if_pos hc], fun j u hj => ?_⟩
      have hj' := (List.getElem?_eq_some_iff.1 hj).1
      rw [hlenD] at hj'
      omega
    · refine ⟨_, by rw [if_neg hc], fun j u hj => ?_⟩
      rw [show ((⟨g, (i + 1) * 3, .none⟩ : Addr).add j) = ⟨g, (i + 1) * 3 + j, .none⟩ from by unfold Addr.add; split <;> simp_all]
      exact hat j u hj
  have HNW := Lib.hid hnews
  have HSP : Hid (∀ j, j < (rowsC memC (M.drop (i + 1))).length → (w.drew.cell? ⟨g, 0 + i * 3 + j, .none⟩).isSome = true ∧ w.drew.frozen? ⟨g, 0 + i * 3 + j, .none⟩ = false) := Lib.hid fun j hj => by
    rw [hlenD] at hj
    refine ⟨?_, hfz _⟩
    show (w.cell? ⟨g, 0 + i * 3 + j, .none⟩).isSome = true
    rw [hcell (0 + i * 3 + j) (by rw [hlen, hn]; omega), List.getElem?_eq_getElem (by rw [hlen, hn]; omega)]; rfl
  have HONE : Hid (∀ u ∈ rowsC memC (M.drop (i + 1)), u.oneCell' = true) := Lib.hid (rows_cells (fun x => by simp [memC, Value.oneCell']) _)
  have HND := Lib.hid hlenD
  have H0 := Lib.hid h
  have d1 : (0 : Int) ≤ (i : Int) := by omega
  have d2 : (i : Int) + 1 ≤ (n : Int) := by omega
  have d3 : (n : Int) ≤ (cap : Int) := by omega
  have d4 : (i : Int) ≤ (cap : Int) := by omega
  have d5 : (0 : Int) ≤ (i : Int) + 1 := by omega
  have z : ((i : Int) == (i : Int) + 1) = false := by rw [beq_eq_false_iff_ne]; omega
  clear hcell hfz hat hnews h hlen hlenD hsplit hlenT
  go_enter Try.func56, Try.ntmps56
  go_wp2_with fail
  go_region_law (refine step_append_room rfl (.tmp 22) (.tmp 25) 80 rfl 90 i0 3 Try.underlying80 hi0 hz1 g 0 i cap (by simp [Act.eval, Act.put]) A (n - (i + 1)) (cap - (i + 1)) (rowsC memC (M.drop (i + 1))) (by simp [Act.eval, Act.put]) HND.out HNW.out HONE.out (by omega) HSP.out ?_)
  obtain ⟨r, hr⟩ : ∃ r, n - 1 = r := ⟨_, rfl⟩
  rw [show i + (n - (i + 1)) = r by omega]
  have HF2 : Hid (Fg w0 (w.drew.setCells g (i * 3) (rowsC memC (M.drop (i + 1)))) (⟨90, 3, n, .slice (some ⟨g, 0, .none⟩) n cap, rowsC memC (M.take i ++ M.drop (i + 1)) ++ (rowsC memC M).drop ((n - 1) * 3)⟩ :: B)) := Lib.hid (by
    have hd := H0.out.drew
    unfold eM at hd
    have e1 : rowsC memC M = rowsC memC (M.take i) ++ (((rowsC memC M).drop (i * 3)).take ((n - (i + 1)) * 3) ++ (rowsC memC M).drop ((n - 1) * 3)) := by
      have a1 : rowsC memC M = rowsC memC (M.take i) ++ rowsC memC (M.drop i) := by rw [← rowsC_app, List.take_append_drop]
      have a2 : (rowsC memC (M.take i)).length = i * 3 := by rw [rowsC_len memC_len, List.length_take, hn, Nat.min_eq_left (by omega)]
      have a3 : (rowsC memC M).drop (i * 3) = rowsC memC (M.drop i) := by
        conv => lhs; rw [a1]
        rw [List.drop_append_of_le_length (by omega), List.drop_of_length_le (by omega), List.nil_append]
      have a4 : (rowsC memC M).drop ((n - 1) * 3) = (rowsC memC (M.drop i)).drop ((n - (i + 1)) * 3) := by
        rw [← a3, List.drop_drop]; congr 1; omega
      rw [a3, a4, List.take_append_drop]; exact a1
    rw [e1, hn] at hd
    have hl1 : (rowsC memC (M.take i)).length = i * 3 := by rw [rowsC_len memC_len, List.length_take, hn, Nat.min_eq_left (by omega)]
    have := Fg.setCellsAt (rowsC memC (M.drop (i + 1))) (rowsC memC (M.take i)) _ _ _ hd (by rw [HND.out, List.length_take, List.length_drop, rowsC_len memC_len, hn]; omega)
    rw [hl1, ← List.append_assoc, ← rowsC_app] at this
    exact this)
  have d6 : (0 : Int) ≤ (r : Int) := by omega
  have d7 : (r : Int) ≤ (n : Int) := by omega
  have d8 : (r : Int) ≤ (cap : Int) := by omega
  go_wp2_with fail
  generalize w.drew.setCells g (i * 3) (rowsC memC (M.drop (i + 1))) = w2 at *
  have hpre : (rowsC memC (M.take i ++ M.drop (i + 1))).length = r * 3 := by rw [rowsC_len memC_len, List.length_append, List.length_take, List.length_drop, hn]; congr 1; omega
  have hpost : ((rowsC memC M).drop ((n - 1) * 3)).length = 3 := by rw [List.length_drop, rowsC_len memC_len, hn]; omega
  obtain ⟨g', e, -, -, k1, k2⟩ := HF2.out.open List.mem_cons_self (by rw [List.length_append, hpost]; omega)
  cases e
  have hcl := run_clear1 w2 80 90 0 (.agg #[.string ByteArray.empty, .int .i64 0, .int .i64 0]) [.string ByteArray.empty, .int .i64 0, .int .i64 0] Try.underlying80 (fun W => by rfl) (by kernel_rfl) (by simp [Value.oneCell']) g (r * 3) (cap - r)
    (fun j hj => by
      have hj : j < 3 := hj
      rw [k1 (r * 3 + j) (by rw [List.length_append, hpre, hpost]; omega), List.getElem?_eq_getElem (by rw [List.length_append, hpre, hpost]; omega)]; rfl) (fun j _ => k2 _)
  have h3 := Fg.setCellsAt [.string ByteArray.empty, .int .i64 0, .int .i64 0] (rowsC memC (M.take i ++ M.drop (i + 1))) w2 ((rowsC memC M).drop ((n - 1) * 3)) [] (by rw [List.append_nil]; exact HF2.out) (by rw [hpost]; rfl)
  rw [hpre] at h3
  have h4 := h3.cut r (by omega)
  rw [List.take_append_of_le_length (by rw [hpre]; exact Nat.le_refl _), List.take_of_length_le (by rw [hpre]; exact Nat.le_refl _), show M.take i ++ M.drop (i + 1) = M.eraseIdx i from (List.eraseIdx_eq_take_drop_succ ..).symm] at h4
  rw [show n - r = 1 by omega, hcl]
  have H4 := Lib.hid h4
  clear h3 h4 hcl k1 k2 HF2
  generalize w2.setCells g (r * 3) [.string ByteArray.empty, .int .i64 0, .int .i64 0] = w3 at *
  go_wp2_with fail
  go_ret
  refine ⟨by rw [hr]; rfl, ?_⟩
  have h5 := H4.out
  have hlr : (M.eraseIdx i).length = r := by rw [List.length_eraseIdx_of_lt (by omega), hn]; exact hr
  unfold eM
  rw [hlr]
  exact h5
set_option maxRecDepth 100000 in
set_option maxHeartbeats 8000000 in
theorem delLoan {w0 w : World} (M : List Loan) (g cap i n : Nat) (B : List Big) (h : Fg w0 w (eL (some ⟨g, 0, .none⟩) cap M :: B)) (hn : M.length = n) (hi : i < n) (hcap : n ≤ cap) :
    Calls Try.prog 58 #[.slice (some ⟨g, 0, .none⟩) n cap, .int .i64 i, .int .i64 ((i : Int) + 1)] w fun e w' => e = .returned (.slice (some ⟨g, 0, .none⟩) (n - 1) cap) ∧ Fg w0 w' (eL (some ⟨g, 0, .none⟩) cap (M.eraseIdx i) :: B) := by
  obtain ⟨i0, hi0, hz0, hz1, hz2⟩ := info_parts loanInfo
  have hlen := rowsC_len loanC_len M
  have hlenD := rowsC_len loanC_len (M.drop (i + 1))
  rw [List.length_drop, hn] at hlenD
  obtain ⟨g', e, -, -, hcell, hfz⟩ := h.open (T := 106) (c := 3) (n := M.length) (cap := cap) (ad := some ⟨g, 0, .none⟩) (xs := rowsC loanC M) List.mem_cons_self (by rw [hlen]; omega)
  cases e
  have hsplit : rowsC loanC M = rowsC loanC (M.take (i + 1)) ++ rowsC loanC (M.drop (i + 1)) := by rw [← rowsC_app, List.take_append_drop]
  have hlenT := rowsC_len loanC_len (M.take (i + 1))
  rw [List.length_take, hn] at hlenT
  have hat : ∀ (j : Nat) (u : Value), (rowsC loanC (M.drop (i + 1)))[j]? = some u → w.cell? ⟨g, (i + 1) * 3 + j, .none⟩ = some u := fun j u hj => by
    have hj' := (List.getElem?_eq_some_iff.1 hj).1
    rw [hlenD] at hj'
    rw [hcell ((i + 1) * 3 + j) (by rw [hlen, hn]; omega), hsplit, List.getElem?_append_right (by rw [hlenT]; omega), hlenT, show (i + 1) * 3 + j - min (i + 1) n * 3 = j by omega]
    exact hj
  obtain ⟨A, hA, hnews⟩ : ∃ A, (if cap = i + 1 then some (⟨g, 0, .none⟩ : Addr) else some ⟨g, (i + 1) * 3, .none⟩) = some A ∧ ∀ (j : Nat) (u : Value), (rowsC loanC (M.drop (i + 1)))[j]? = some u → w.drew.cell? (A.add j) = some u := by
    by_cases hc : cap = i + 1
    · refine ⟨_, by rw [if_pos hc], fun j u hj => ?_⟩
      have hj' := (List.getElem?_eq_some_iff.1 hj).1
      rw [hlenD] at hj'
      omega
    · refine ⟨_, by rw [if_neg hc], fun j u hj => ?_⟩
      rw [show ((⟨g, (i + 1) * 3, .none⟩ : Addr).add j) = ⟨g, (i + 1) * 3 + j, .none⟩ from by unfold Addr.add; split <;> simp_all]
      exact hat j u hj
  have HNW := Lib.hid hnews
  have HSP : Hid (∀ j, j < (rowsC loanC (M.drop (i + 1))).length → (w.drew.cell? ⟨g, 0 + i * 3 + j, .none⟩).isSome = true ∧ w.drew.frozen? ⟨g, 0 + i * 3 + j, .none⟩ = false) := Lib.hid fun j hj => by
    rw [hlenD] at hj
    refine ⟨?_, hfz _⟩
    show (w.cell? ⟨g, 0 + i * 3 + j, .none⟩).isSome = true
    rw [hcell (0 + i * 3 + j) (by rw [hlen, hn]; omega), List.getElem?_eq_getElem (by rw [hlen, hn]; omega)]; rfl
  have HONE : Hid (∀ u ∈ rowsC loanC (M.drop (i + 1)), u.oneCell' = true) := Lib.hid (rows_cells (fun x => by simp [loanC, Value.oneCell']) _)
  have HND := Lib.hid hlenD
  have H0 := Lib.hid h
  have d1 : (0 : Int) ≤ (i : Int) := by omega
  have d2 : (i : Int) + 1 ≤ (n : Int) := by omega
  have d3 : (n : Int) ≤ (cap : Int) := by omega
  have d4 : (i : Int) ≤ (cap : Int) := by omega
  have d5 : (0 : Int) ≤ (i : Int) + 1 := by omega
  have z : ((i : Int) == (i : Int) + 1) = false := by rw [beq_eq_false_iff_ne]; omega
  clear hcell hfz hat hnews h hlen hlenD hsplit hlenT
  go_enter Try.func58, Try.ntmps58
  go_wp2_with fail
  go_region_law (refine step_append_room rfl (.tmp 22) (.tmp 25) 81 rfl 106 i0 3 Try.underlying81 hi0 hz1 g 0 i cap (by simp [Act.eval, Act.put]) A (n - (i + 1)) (cap - (i + 1)) (rowsC loanC (M.drop (i + 1))) (by simp [Act.eval, Act.put]) HND.out HNW.out HONE.out (by omega) HSP.out ?_)
  obtain ⟨r, hr⟩ : ∃ r, n - 1 = r := ⟨_, rfl⟩
  rw [show i + (n - (i + 1)) = r by omega]
  have HF2 : Hid (Fg w0 (w.drew.setCells g (i * 3) (rowsC loanC (M.drop (i + 1)))) (⟨106, 3, n, .slice (some ⟨g, 0, .none⟩) n cap, rowsC loanC (M.take i ++ M.drop (i + 1)) ++ (rowsC loanC M).drop ((n - 1) * 3)⟩ :: B)) := Lib.hid (by
    have hd := H0.out.drew
    unfold eL at hd
    have e1 : rowsC loanC M = rowsC loanC (M.take i) ++ (((rowsC loanC M).drop (i * 3)).take ((n - (i + 1)) * 3) ++ (rowsC loanC M).drop ((n - 1) * 3)) := by
      have a1 : rowsC loanC M = rowsC loanC (M.take i) ++ rowsC loanC (M.drop i) := by rw [← rowsC_app, List.take_append_drop]
      have a2 : (rowsC loanC (M.take i)).length = i * 3 := by rw [rowsC_len loanC_len, List.length_take, hn, Nat.min_eq_left (by omega)]
      have a3 : (rowsC loanC M).drop (i * 3) = rowsC loanC (M.drop i) := by
        conv => lhs; rw [a1]
        rw [List.drop_append_of_le_length (by omega), List.drop_of_length_le (by omega), List.nil_append]
      have a4 : (rowsC loanC M).drop ((n - 1) * 3) = (rowsC loanC (M.drop i)).drop ((n - (i + 1)) * 3) := by
        rw [← a3, List.drop_drop]; congr 1; omega
      rw [a3, a4, List.take_append_drop]; exact a1
    rw [e1, hn] at hd
    have hl1 : (rowsC loanC (M.take i)).length = i * 3 := by rw [rowsC_len loanC_len, List.length_take, hn, Nat.min_eq_left (by omega)]
    have := Fg.setCellsAt (rowsC loanC (M.drop (i + 1))) (rowsC loanC (M.take i)) _ _ _ hd (by rw [HND.out, List.length_take, List.length_drop, rowsC_len loanC_len, hn]; omega)
    rw [hl1, ← List.append_assoc, ← rowsC_app] at this
    exact this)
  have d6 : (0 : Int) ≤ (r : Int) := by omega
  have d7 : (r : Int) ≤ (n : Int) := by omega
  have d8 : (r : Int) ≤ (cap : Int) := by omega
  go_wp2_with fail
  generalize w.drew.setCells g (i * 3) (rowsC loanC (M.drop (i + 1))) = w2 at *
  have hpre : (rowsC loanC (M.take i ++ M.drop (i + 1))).length = r * 3 := by rw [rowsC_len loanC_len, List.length_append, List.length_take, List.length_drop, hn]; congr 1; omega
  have hpost : ((rowsC loanC M).drop ((n - 1) * 3)).length = 3 := by rw [List.length_drop, rowsC_len loanC_len, hn]; omega
  obtain ⟨g', e, -, -, k1, k2⟩ := HF2.out.open List.mem_cons_self (by rw [List.length_append, hpost]; omega)
  cases e
  have hcl := run_clear1 w2 81 106 0 (.agg #[.string ByteArray.empty, .string ByteArray.empty, .int .i64 0]) [.string ByteArray.empty, .string ByteArray.empty, .int .i64 0] Try.underlying81 (fun W => by rfl) (by kernel_rfl) (by simp [Value.oneCell']) g (r * 3) (cap - r)
    (fun j hj => by
      have hj : j < 3 := hj
      rw [k1 (r * 3 + j) (by rw [List.length_append, hpre, hpost]; omega), List.getElem?_eq_getElem (by rw [List.length_append, hpre, hpost]; omega)]; rfl) (fun j _ => k2 _)
  have h3 := Fg.setCellsAt [.string ByteArray.empty, .string ByteArray.empty, .int .i64 0] (rowsC loanC (M.take i ++ M.drop (i + 1))) w2 ((rowsC loanC M).drop ((n - 1) * 3)) [] (by rw [List.append_nil]; exact HF2.out) (by rw [hpost]; rfl)
  rw [hpre] at h3
  have h4 := h3.cut r (by omega)
  rw [List.take_append_of_le_length (by rw [hpre]; exact Nat.le_refl _), List.take_of_length_le (by rw [hpre]; exact Nat.le_refl _), show M.take i ++ M.drop (i + 1) = M.eraseIdx i from (List.eraseIdx_eq_take_drop_succ ..).symm] at h4
  rw [show n - r = 1 by omega, hcl]
  have H4 := Lib.hid h4
  clear h3 h4 hcl k1 k2 HF2
  generalize w2.setCells g (r * 3) [.string ByteArray.empty, .string ByteArray.empty, .int .i64 0] = w3 at *
  go_wp2_with fail
  go_ret
  refine ⟨by rw [hr]; rfl, ?_⟩
  have h5 := H4.out
  have hlr : (M.eraseIdx i).length = r := by rw [List.length_eraseIdx_of_lt (by omega), hn]; exact hr
  unfold eL
  rw [hlr]
  exact h5
end Go.Proofs.Ytjplnkkcmkpkbaa
