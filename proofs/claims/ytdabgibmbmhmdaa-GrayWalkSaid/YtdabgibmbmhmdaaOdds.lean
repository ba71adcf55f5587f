/- Contracts of package odds: Check, sum, Mean, Spread. -/
import Derived.Test.YtdabgibmbmhmdaaOddM
import Derived.Test.YtdabgibmbmhmdaaRat3
import Derived.Test.YtdabgibmbmhmdaaArr4
import Derived.RegionTactic
import Derived.Shelf.Abstract
namespace Go.Proofs.Ytdabgibmbmhmdaa
open Go.RowKit

/-- a ratio in a block of its own -/
def eQ (b : Nat) (X Y : Int) : Ent := ⟨40, .slice (some ⟨b, 0, .none⟩) 2 2, ints [X, Y]⟩
theorem Fr.rq {w0 w : World} {L : List Ent} (h : Fr w0 w L) (X Y : Int) (N : Nat) (hN : w.heap.size = N) : Fr w0 (w.alloc (.cells #[.int .i64 X, .int .i64 Y] 40)) (eQ N X Y :: L) := by
  subst hN; exact h.lit [X, Y] #[.int .i64 X, .int .i64 Y] rfl 2 rfl (by omega) 40
theorem Fr.rqAt {w0 w : World} {L : List Ent} (h : Fr w0 w L) (i : Nat) {b : Nat} {X Y : Int} (he : L[i]? = some (eQ b X Y)) :
    w.cell? ⟨b, 0, .none⟩ = some (.int .i64 X) ∧ w.cell? ⟨b, 1, .none⟩ = some (.int .i64 Y) ∧ b < w.heap.size ∧ w0.heap.size ≤ b ∧ w.frozen? ⟨b, 0, .none⟩ = false ∧ w.frozen? ⟨b, 1, .none⟩ = false := by
  have hO := h.os.own _ (List.mem_of_getElem? he)
  have h1 := World.ownsRow.cellAt hO 0 (by decide)
  have h2 := World.ownsRow.cellAt hO 1 (by decide)
  have h3 := Ent.own.lt hO b rfl
  exact ⟨h1, h2, h3.2, h3.1, World.ownsRow.frozenAt hO 0, World.ownsRow.frozenAt hO 1⟩
theorem Fr.rqPut {w0 w : World} {L : List Ent} {b : Nat} {X Y : Int} (h : Fr w0 w (eQ b X Y :: L)) (X' Y' : Int) :
    Fr w0 ((w.setCell ⟨b, 0, .none⟩ (.int .i64 X')).setCell ⟨b, 1, .none⟩ (.int .i64 Y')) (eQ b X' Y' :: L) := (h.setInt 0 X').setInt 1 Y'
/-- odds in a block of its own -/
def eO (b : Nat) (v1 v2 : Value) : Ent := ⟨37, .slice (some ⟨b, 0, .none⟩) 2 2, [v1, v2]⟩
theorem Fr.ro {w0 w : World} {L : List Ent} (h : Fr w0 w L) (v1 v2 : Value) (N : Nat) (hN : w.heap.size = N) : Fr w0 (w.alloc (.cells #[v1, v2] 37)) (eO N v1 v2 :: L) := by
  subst hN; exact h.new 37 #[v1, v2] [v1, v2] rfl 2 rfl (by omega)
theorem Fr.roAt {w0 w : World} {L : List Ent} (h : Fr w0 w L) (i : Nat) {b : Nat} {v1 v2 : Value} (he : L[i]? = some (eO b v1 v2)) :
    w.cell? ⟨b, 0, .none⟩ = some v1 ∧ w.cell? ⟨b, 1, .none⟩ = some v2 ∧ b < w.heap.size ∧ w0.heap.size ≤ b ∧ w.frozen? ⟨b, 0, .none⟩ = false ∧ w.frozen? ⟨b, 1, .none⟩ = false := by
  have hO := h.os.own _ (List.mem_of_getElem? he)
  have h1 := World.ownsRow.cellAt hO 0 (by show 0 < 2; omega)
  have h2 := World.ownsRow.cellAt hO 1 (by show 1 < 2; omega)
  have h3 := Ent.own.lt hO b rfl
  exact ⟨h1, h2, h3.2, h3.1, World.ownsRow.frozenAt hO 0, World.ownsRow.frozenAt hO 1⟩

set_option maxRecDepth 100000 in
set_option maxHeartbeats 2000000 in
theorem oddChk (vs ws : List Int) (n k : Nat) (a b : Option Addr) (ca cb : Nat) (w : World) (h : Sa w a (ints vs)) (h' : Sa w b (ints ws)) (hn : vs.length = n) (hk : ws.length = k) :
    Calls Try.prog 69 #[.agg #[.slice a n ca, .slice b k cb]] w fun e w' => e = .returned (.int .i64 (chkO vs ws)) ∧ Below w.heap.size w w' := by
  have HN := Lib.hid hn; have HK := Lib.hid hk; have HS := Lib.hid h; have HS' := Lib.hid h'
  clear h h'
  have e2 : chkO vs ws = if n < 1 ∨ 12 < n then 2 else if k ≠ n then 3 else if (List.range n).any (fun k => oddBad (nth vs k) (nth ws k)) then 1 else 0 := by rw [← hn, ← hk]; rfl
  have HBEL := Lib.hid (kin_alloc (Below.refl w.heap.size w) (.cells #[.slice a n ca, .slice b k cb] 37))
  by_cases hl : n < 1 ∨ 12 < n
  · rw [if_pos hl] at e2
    have E2 := Lib.hid e2
    clear e2 hn hk
    rcases hl with hl | hl
    · obtain rfl : n = 0 := by omega
      go_enter Try.func69, Try.ntmps69
      go_wp2_with fail
      go_ret
      exact ⟨by rw [E2.out]; rfl, HBEL.out⟩
    · have d1 : decide ((n : Int) < 1) = false := decide_eq_false (by omega)
      have d2 : decide ((12 : Int) < (n : Int)) = true := decide_eq_true (by omega)
      go_enter Try.func69, Try.ntmps69
      go_wp2_with fail
      go_ret
      exact ⟨by rw [E2.out]; rfl, HBEL.out⟩
  · rw [if_neg hl] at e2
    have n1 : 1 ≤ n := by omega
    have n12 : n ≤ 12 := by omega
    by_cases hkn : k ≠ n
    · rw [if_pos hkn] at e2
      have E2 := Lib.hid e2
      clear e2 hn hk hl
      have d1 : ((k : Int) != (n : Int)) = true := by rw [bne_iff_ne]; omega
      go_enter Try.func69, Try.ntmps69
      go_wp2_with fail
      go_ret
      exact ⟨by rw [E2.out]; rfl, HBEL.out⟩
    · obtain rfl : k = n := by omega
      rw [if_neg hkn] at e2
      have E2 := Lib.hid e2
      clear e2 hn hk hl hkn
      go_enter Try.func69, Try.ntmps69
      go_wp2_with fail
      go_loop [25] (fun i => ∃ j : Nat, j ≤ k ∧ i = .int .i64 j ∧ Hid ((List.range j).any (fun k => oddBad (nth vs k) (nth ws k)) = false)) (fun i => k - (intOf i).toNat)
      case atStart => exact ⟨0, by omega, rfl, Lib.hid rfl⟩
      case round =>
        obtain ⟨j, hj, rfl, HA⟩ := hrel
        by_cases hlt : j < k
        · obtain ⟨b1, off1, rfl, hb1, hc1⟩ := HS.out.int j (by rw [HN.out]; exact hlt)
          obtain ⟨b2, off2, rfl, hb2, hc2⟩ := HS'.out.int j (by rw [HK.out]; exact hlt)
          have HX : Hid (∀ B, oddBad (nth vs j) (nth ws j) = B → (List.range (j + 1)).any (fun k => oddBad (nth vs k) (nth ws k)) = B) := Lib.hid fun B hB => by
            rw [List.range_succ, List.any_append, HA.out]; simp [hB]
          have HT : Hid (oddBad (nth vs j) (nth ws j) = true → (List.range k).any (fun k => oddBad (nth vs k) (nth ws k)) = true) := Lib.hid fun hB => List.any_eq_true.2 ⟨j, List.mem_range.2 hlt, hB⟩
          obtain ⟨x, hx⟩ : ∃ x, nth vs j = x := ⟨_, rfl⟩
          obtain ⟨y, hy⟩ : ∃ y, nth ws j = y := ⟨_, rfl⟩
          rw [hx] at hc1 HX HT
          rw [hy] at hc2 HX HT
          clear hx hy
          have q1 : (0 : Int) ≤ (j : Int) := by omega
          have q2 : (j : Int) < (k : Int) := by omega
          by_cases c1 : x < -20
          · have hB := HT.out (by unfold oddBad; exact decide_eq_true (by omega))
            have HB := Lib.hid hB; clear hB
            go_wp2_with fail
            go_ret
            exact ⟨by rw [E2.out, HB.out]; rfl, HBEL.out⟩
          · by_cases c2 : 20 < x
            · have hB := HT.out (by unfold oddBad; exact decide_eq_true (by omega))
              have HB := Lib.hid hB; clear hB
              go_wp2_with fail
              go_ret
              exact ⟨by rw [E2.out, HB.out]; rfl, HBEL.out⟩
            · by_cases c3 : y < 1
              · have hB := HT.out (by unfold oddBad; exact decide_eq_true (by omega))
                have HB := Lib.hid hB; clear hB
                go_wp2_with fail
                go_ret
                exact ⟨by rw [E2.out, HB.out]; rfl, HBEL.out⟩
              · by_cases c4 : 100 < y
                · have hB := HT.out (by unfold oddBad; exact decide_eq_true (by omega))
                  have HB := Lib.hid hB; clear hB
                  go_wp2_with fail
                  go_ret
                  exact ⟨by rw [E2.out, HB.out]; rfl, HBEL.out⟩
                · have hB := HX.out false (by unfold oddBad; exact decide_eq_false (by omega))
                  have HB := Lib.hid hB; clear hB
                  go_wp2_with fail
                  exact ⟨⟨j + 1, by omega, by simp, HB⟩, by simp only [intOf]; omega⟩
        · obtain rfl : j = k := by omega
          go_wp2_with fail
          go_ret
          exact ⟨by rw [E2.out, HA.out]; rfl, HBEL.out⟩

set_option maxRecDepth 100000 in
set_option maxHeartbeats 2000000 in
theorem oddSum (F : Int → Int) (g : Nat) (cl : Array Value) (w : World) (hg : ∀ args w, (callFunc g args).run Try.prog w = .ok (.enter g args) w)
    (hf : ∀ x W, -20 ≤ x → x ≤ 20 → Below w.heap.size w W → Calls Try.prog g (#[.int .i64 x] ++ cl) W fun e w' => e = .returned (.int .i64 (F x)) ∧ W = w') (hF : ∀ x, -20 ≤ x → x ≤ 20 → -400 ≤ F x ∧ F x ≤ 400)
    (vs ws : List Int) (n : Nat) (a b : Option Addr) (ca cb : Nat) (h : Sa w a (ints vs)) (h' : Sa w b (ints ws)) (hn : vs.length = n) (ho : OddOk vs ws) :
    Calls Try.prog 71 #[.agg #[.slice a n ca, .slice b n cb], .func (.func g) #[] cl] w fun e w' => e = .returned (.int .i64 (wsK F vs ws n)) ∧ Below w.heap.size w w' := by
  have n12 := ho.n12
  rw [hn] at n12
  have HN := Lib.hid hn; have HK := Lib.hid (ho.len.trans hn); have HS := Lib.hid h; have HS' := Lib.hid h'; have HO := Lib.hid ho
  have HFC := Lib.hid hf; have HFB := Lib.hid hF
  have HWB : Hid (∀ k : Nat, k ≤ vs.length → -(100 * 400 * k) ≤ wsK F vs ws k ∧ wsK F vs ws k ≤ 100 * 400 * k) := Lib.hid (wsK_bd ho F 400 (by omega) hF)
  clear h h' hn ho hf hF
  have F0 := Lib.hid ((Fr.start w).ro (.slice a n ca) (.slice b n cb) w.heap.size rfl)
  go_enter Try.func71, Try.ntmps71
  go_wp2_with fail
  go_loopw [5, 11] (fun s i wr => ∃ (j : Nat), j ≤ n ∧ i = .int .i64 j ∧ s = .int .i64 (wsK F vs ws j) ∧ Fr w wr [eO w.heap.size (.slice a n ca) (.slice b n cb)]) (fun _ i _ => n - (intOf i).toNat)
  case atStart => exact ⟨0, by omega, rfl, rfl, F0.out⟩
  case round =>
    obtain ⟨j, hj, rfl, rfl, hfr⟩ := hrel
    by_cases hlt : j < n
    · have BS := HWB.out j (by rw [HN.out]; exact hj)
      have BT := term_bd HO.out F HFB.out j (by rw [HN.out]; exact hlt)
      obtain ⟨v1, v2, v3, v4⟩ := HO.out.val j (by rw [HN.out]; exact hlt)
      obtain ⟨b1, off1, rfl, hb1, hc1⟩ := (hfr.old HS.out).int j (by rw [HN.out]; exact hlt)
      obtain ⟨b2, off2, rfl, hb2, hc2⟩ := (hfr.old HS'.out).int j (by rw [HK.out]; exact hlt)
      obtain ⟨c0, c1, hz, hz0, -, -⟩ := hfr.roAt 0 rfl
      have HF := Lib.hid hfr
      clear hfr hz hz0
      have hs : Hid (wsK F vs ws (j + 1) = wsK F vs ws j + nth ws j * F (nth vs j)) := Lib.hid rfl
      have FB := HFB.out (nth vs j) v1 v2
      obtain ⟨x, hx⟩ : ∃ x, nth vs j = x := ⟨_, rfl⟩
      obtain ⟨y, hy⟩ : ∃ y, nth ws j = y := ⟨_, rfl⟩
      rw [hx] at hc1 hs v1 v2 BT FB
      rw [hy] at hc2 hs v3 v4 BT
      have HCL := Lib.hid (fun W hW => HFC.out x W v1 v2 hW)
      obtain ⟨z, hz⟩ : ∃ z, F x = z := ⟨_, rfl⟩
      rw [hz] at hs BT FB
      have HZ := Lib.hid hz
      obtain ⟨q, hq⟩ : ∃ q, y * z = q := ⟨_, rfl⟩
      rw [hq] at hs BT
      obtain ⟨S, hS⟩ : ∃ S, wsK F vs ws j = S := ⟨_, rfl⟩
      rw [hS] at hs BS ⊢
      obtain ⟨s1, s2⟩ := BS
      obtain ⟨t1, t2⟩ := BT
      obtain ⟨f1, f2⟩ := FB
      have s3 : -480000 ≤ S := by omega
      have s4 : S ≤ 480000 := by omega
      clear hx hy hz hS s1 s2
      have q1 : (0 : Int) ≤ (j : Int) := by omega
      have q2 : (j : Int) < (n : Int) := by omega
      go_wp2_with fail
      go_quiet ((go_at_fn g; exact quiet_eq ((HCL.out _ (HF.out.drewN _).bel).mono fun _ _ ⟨a, b⟩ => ⟨by rw [a, HZ.out], b⟩)))
      go_wp2_with fail
      go_roundw
      case rel => exact ⟨j + 1, by omega, by go_num, by rw [hs.out], HF.out.drewN _⟩
      case measure => simp only [intOf]; omega
    · obtain rfl : j = n := by omega
      go_wp2_with fail
      go_ret
      exact ⟨rfl, hfr.bel⟩

theorem oddMean1 (x : Int) (W : World) : Calls Try.prog 72 #[.int .i64 x] W fun e w' => e = .returned (.int .i64 x) ∧ W = w' := by
  go_enter Try.func72, Try.ntmps72
  go_wp2_with fail
  go_ret
  exact ⟨rfl, rfl⟩
theorem oddOne (x : Int) (W : World) : Calls Try.prog 73 #[.int .i64 x] W fun e w' => e = .returned (.int .i64 1) ∧ W = w' := by
  go_enter Try.func73, Try.ntmps73
  go_wp2_with fail
  go_ret
  exact ⟨rfl, rfl⟩
theorem oddOneSum (vs ws : List Int) (n : Nat) (a b : Option Addr) (ca cb : Nat) (w : World) (h : Sa w a (ints vs)) (h' : Sa w b (ints ws)) (hn : vs.length = n) (ho : OddOk vs ws) :
    Calls Try.prog 71 #[.agg #[.slice a n ca, .slice b n cb], .func (.func 73) #[] #[]] w fun e w' => e = .returned (.int .i64 (oW vs ws)) ∧ Below w.heap.size w w' := by
  have := oddSum (fun _ => 1) 73 #[] w (enters_of Try.func73 (by kernel_rfl) rfl) (fun x W _ _ _ => oddOne x W) (fun x _ _ => by omega) vs ws n a b ca cb h h' hn ho
  unfold oW; rw [hn]; exact this
theorem oddASum (vs ws : List Int) (n : Nat) (a b : Option Addr) (ca cb : Nat) (w : World) (h : Sa w a (ints vs)) (h' : Sa w b (ints ws)) (hn : vs.length = n) (ho : OddOk vs ws) :
    Calls Try.prog 71 #[.agg #[.slice a n ca, .slice b n cb], .func (.func 72) #[] #[]] w fun e w' => e = .returned (.int .i64 (oA vs ws)) ∧ Below w.heap.size w w' := by
  have := oddSum (fun x => x) 72 #[] w (enters_of Try.func72 (by kernel_rfl) rfl) (fun x W _ _ _ => oddMean1 x W) (fun x _ _ => by omega) vs ws n a b ca cb h h' hn ho
  unfold oA; rw [hn]; exact this
theorem oddSpread1 (x : Int) (W : World) : Calls Try.prog 74 #[.int .i64 x] W fun e w' => e = .returned (.int .i64 x) ∧ W = w' := by
  go_enter Try.func74, Try.ntmps74
  go_wp2_with fail
  go_ret
  exact ⟨rfl, rfl⟩
theorem oddSpread2 (x : Int) (W : World) (h1 : -20 ≤ x) (h2 : x ≤ 20) : Calls Try.prog 75 #[.int .i64 x] W fun e w' => e = .returned (.int .i64 (x * x)) ∧ W = w' := by
  have := sq_bd x h1 h2
  obtain ⟨q, hq⟩ : ∃ q, x * x = q := ⟨_, rfl⟩
  rw [hq] at this ⊢
  obtain ⟨q1, q2⟩ := this
  go_enter Try.func75, Try.ntmps75
  go_wp2_with fail
  go_ret
  exact ⟨rfl, rfl⟩
theorem oddASum2 (vs ws : List Int) (n : Nat) (a b : Option Addr) (ca cb : Nat) (w : World) (h : Sa w a (ints vs)) (h' : Sa w b (ints ws)) (hn : vs.length = n) (ho : OddOk vs ws) :
    Calls Try.prog 71 #[.agg #[.slice a n ca, .slice b n cb], .func (.func 74) #[] #[]] w fun e w' => e = .returned (.int .i64 (oA vs ws)) ∧ Below w.heap.size w w' := by
  have := oddSum (fun x => x) 74 #[] w (enters_of Try.func74 (by kernel_rfl) rfl) (fun x W _ _ _ => oddSpread1 x W) (fun x _ _ => by omega) vs ws n a b ca cb h h' hn ho
  unfold oA; rw [hn]; exact this
theorem oddBSum (vs ws : List Int) (n : Nat) (a b : Option Addr) (ca cb : Nat) (w : World) (h : Sa w a (ints vs)) (h' : Sa w b (ints ws)) (hn : vs.length = n) (ho : OddOk vs ws) :
    Calls Try.prog 71 #[.agg #[.slice a n ca, .slice b n cb], .func (.func 75) #[] #[]] w fun e w' => e = .returned (.int .i64 (oB vs ws)) ∧ Below w.heap.size w w' := by
  have := oddSum (fun x => x * x) 75 #[] w (enters_of Try.func75 (by kernel_rfl) rfl) (fun x W h1 h2 _ => oddSpread2 x W h1 h2) (fun x h1 h2 => by have := sq_bd x h1 h2; omega) vs ws n a b ca cb h h' hn ho
  unfold oB; rw [hn]; exact this
end Go.Proofs.Ytdabgibmbmhmdaa
