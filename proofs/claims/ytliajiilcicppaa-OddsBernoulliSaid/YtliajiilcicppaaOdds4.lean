/- Contracts of odds.Beyond. -/
import Derived.Test.YtliajiilcicppaaOdds
import Derived.Test.YtliajiilcicppaaOddM2
import Derived.RegionTactic
import Derived.RegionCalls
namespace Go.Proofs.Ytliajiilcicppaa
open Go.RowKit

/-- a number in a block of its own -/
def eI (b : Nat) (x : Int) : Ent := ⟨3, .slice (some ⟨b, 0, .none⟩) 1 1, ints [x]⟩
theorem Fr.ri {w0 w : World} {L : List Ent} (h : Fr w0 w L) (x : Int) (N : Nat) (hN : w.heap.size = N) : Fr w0 (w.alloc (.cells #[.int .i64 x] 3)) (eI N x :: L) := by
  subst hN; exact h.lit [x] #[.int .i64 x] rfl 1 rfl (by omega) 3
theorem Fr.riAt {w0 w : World} {L : List Ent} (h : Fr w0 w L) (i : Nat) {b : Nat} {x : Int} (he : L[i]? = some (eI b x)) :
    w.cell? ⟨b, 0, .none⟩ = some (.int .i64 x) ∧ b < w.heap.size ∧ w0.heap.size ≤ b ∧ w.frozen? ⟨b, 0, .none⟩ = false := by
  have hO := h.os.own _ (List.mem_of_getElem? he)
  have h1 := World.ownsRow.cellAt hO 0 (by decide)
  have h3 := Ent.own.lt hO b rfl
  exact ⟨h1, h3.2, h3.1, World.ownsRow.frozenAt hO 0⟩

theorem oddBey1 (x t : Int) (b : Nat) (W : World) (hc : W.cell? ⟨b, 0, .none⟩ = some (.int .i64 t)) : Calls Try.prog 48 #[.int .i64 x, .pointer (some ⟨b, 0, .none⟩)] W fun e w' => e = .returned (.int .i64 (if t ≤ x then 1 else 0)) ∧ W = w' := by
  by_cases h : t ≤ x
  · have d : decide (t ≤ x) = true := decide_eq_true h
    rw [if_pos h]
    clear h
    go_enter Try.func48, Try.ntmps48
    go_wp2_with fail
    go_ret
    exact ⟨rfl, rfl⟩
  · have d : decide (t ≤ x) = false := decide_eq_false h
    rw [if_neg h]
    clear h
    go_enter Try.func48, Try.ntmps48
    go_wp2_with fail
    go_ret
    exact ⟨rfl, rfl⟩
theorem oddNSum (t : Int) (c : Nat) (vs ws : List Int) (n : Nat) (a b : Option Addr) (ca cb : Nat) (w : World) (hc : w.cell? ⟨c, 0, .none⟩ = some (.int .i64 t)) (hlt : c < w.heap.size) (h : Sa w a (ints vs)) (h' : Sa w b (ints ws)) (hn : vs.length = n) (ho : OddOk vs ws) :
    Calls Try.prog 43 #[.agg #[.slice a n ca, .slice b n cb], .func (.func 48) #[] #[.pointer (some ⟨c, 0, .none⟩)]] w fun e w' => e = .returned (.int .i64 (oN t vs ws)) ∧ Below w.heap.size w w' := by
  have := oddSum (fun x => if t ≤ x then 1 else 0) 48 #[.pointer (some ⟨c, 0, .none⟩)] w (enters_of Try.func48 (by kernel_rfl) rfl) (fun x W _ _ hb => oddBey1 x t c W (keep_cell hb hc hlt)) (fun x _ _ => by show -400 ≤ (if t ≤ x then (1 : Int) else 0) ∧ (if t ≤ x then (1 : Int) else 0) ≤ 400; split <;> omega) vs ws n a b ca cb h h' hn ho
  unfold oN; rw [hn]; exact this

set_option maxRecDepth 100000 in
set_option maxHeartbeats 4000000 in
theorem oddBeyond (vs ws : List Int) (n : Nat) (a b : Option Addr) (ca cb : Nat) (t : Int) (w : World) (h : Sa w a (ints vs)) (h' : Sa w b (ints ws)) (hn : vs.length = n) (ho : OddOk vs ws) (X Y : Int) (hr : RedIs (oN t vs ws) (oW vs ws) X Y) :
    Calls Try.prog 33 #[.agg #[.slice a n ca, .slice b n cb], .int .i64 t] w fun e w' => e = .returned (.tuple #[.agg #[.int .i64 X, .int .i64 Y], .int .i64 0]) ∧ Below w.heap.size w w' := by
  have HN := Lib.hid hn; have HK := Lib.hid (ho.len.trans hn); have HS := Lib.hid h; have HS' := Lib.hid h'; have HO := Lib.hid ho
  have HC := Lib.hid (chkO_of ho); have HR := Lib.hid hr
  have F0 := Lib.hid ((((Fr.start w).ro (.slice a n ca) (.slice b n cb) w.heap.size rfl).ri t (w.heap.size + 1) (by simp)).rq 0 0 (w.heap.size + 1 + 1) (by simp))
  obtain ⟨v1, v2⟩ := oW_bd ho
  obtain ⟨v3, v4⟩ := oN_bd ho t
  clear h h' hn ho hr
  go_enter Try.func33, Try.ntmps33
  go_wp2_with fail
  refine (oddChk vs ws n n a b ca cb _ (F0.out.old HS.out) (F0.out.old HS'.out) HN.out HK.out).mono ?_; rintro e w1 ⟨rfl, hb⟩
  rw [HC.out]
  have F1 := F0.out.keep hb
  obtain ⟨c0, c1, hz, hz0, -, -⟩ := F1.roAt 2 rfl
  clear hb hz hz0
  have HF1 := Lib.hid F1; clear F1
  go_wp2_with fail
  have HFc := Lib.hid HF1.out.drew; clear HF1
  go_region_with (first
    | (go_at_call 43; with_reducible refine (oddNSum t (w.heap.size + 1) vs ws n _ _ _ _ _ (HFc.out.riAt 1 rfl).1 (HFc.out.riAt 1 rfl).2.1 (HFc.out.old HS.out) (HFc.out.old HS'.out) HN.out HO.out).mono ?_; rintro e w2 ⟨rfl, hb⟩; have F2 := HFc.out.keep hb; clear hb HFc; obtain ⟨c02, c12, hz2, hz02, -, -⟩ := F2.roAt 2 rfl; clear hz2 hz02; have HFc := Lib.hid F2; clear F2)
    | (go_at_call 43; with_reducible refine (oddOneSum vs ws n _ _ _ _ _ (HFc.out.old HS.out) (HFc.out.old HS'.out) HN.out HO.out).mono ?_; rintro e w3 ⟨rfl, hb⟩; have F3 := HFc.out.keep hb; clear hb HFc; obtain ⟨c03, c13, hz2, hz02, -, -⟩ := F3.roAt 2 rfl; clear hz2 hz02; have HFc := Lib.hid F3; clear F3)
    | (go_at_call 19; with_reducible refine (make_fits (oN t vs ws) (oW vs ws) X Y _ (by omega) (by omega) HR.out).mono ?_; rintro e w4 ⟨rfl, hb⟩; have F4 := HFc.out.keep hb; clear hb; obtain ⟨d0, d1, dz, dz0, df0, df1⟩ := F4.rqAt 0 rfl; have HF4 := Lib.hid F4; clear F4))
  all_goals
    go_wp2_with fail
    exact bodyPost_ret (v := .tuple #[.agg #[.int .i64 X, .int .i64 Y], .int .i64 0]) (by simp [results, Try.results33, go_sem, d0, d1]) rfl
      ⟨rfl, (HF4.out.rqPut X Y).bel⟩

set_option maxRecDepth 100000 in
set_option maxHeartbeats 1000000 in
theorem oddBeyond_no (vs ws : List Int) (n k : Nat) (a b : Option Addr) (ca cb : Nat) (t : Int) (w : World) (h : Sa w a (ints vs)) (h' : Sa w b (ints ws)) (hn : vs.length = n) (hk : ws.length = k) (er : Int) (he : chkO vs ws = er) (h0 : er ≠ 0) :
    Calls Try.prog 33 #[.agg #[.slice a n ca, .slice b k cb], .int .i64 t] w fun e w' => e = .returned (.tuple #[.agg #[.int .i64 0, .int .i64 0], .int .i64 er]) ∧ Below w.heap.size w w' := by
  have F0 := Lib.hid ((((Fr.start w).ro (.slice a n ca) (.slice b k cb) w.heap.size rfl).ri t (w.heap.size + 1) (by simp)).rq 0 0 (w.heap.size + 1 + 1) (by simp))
  have z : (er != 0) = true := by rw [bne_iff_ne]; exact h0
  have HS := Lib.hid h; have HS' := Lib.hid h'; have HN := Lib.hid hn; have HK := Lib.hid hk; have HE := Lib.hid he
  clear h h' h0 hn hk he
  go_enter Try.func33, Try.ntmps33
  go_wp2_with fail
  refine (oddChk vs ws n k a b ca cb _ (F0.out.old HS.out) (F0.out.old HS'.out) HN.out HK.out).mono ?_; rintro e w1 ⟨rfl, hb⟩
  rw [HE.out]
  have F1 := F0.out.keep hb
  clear hb
  obtain ⟨d0, d1, dz, dz0, df0, df1⟩ := F1.rqAt 0 rfl
  have HF1 := Lib.hid F1; clear F1
  go_wp2_with fail
  exact bodyPost_ret (v := .tuple #[.agg #[.int .i64 0, .int .i64 0], .int .i64 er]) (by simp [results, Try.results33, go_sem, d0, d1]) rfl
    ⟨rfl, (HF1.out.rqPut 0 0).bel⟩
end Go.Proofs.Ytliajiilcicppaa
