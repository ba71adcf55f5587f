/- Contracts of alias tables: Check, Build. -/
import Derived.Test.YtgblmbhbbjgdiaaAliasM
import Derived.Test.YtgblmbhbbjgdiaaGood
import Derived.RegionTactic
namespace Go.Proofs.Ytgblmbhbbjgdiaa
open Go.RowKit

set_option maxRecDepth 100000 in
set_option maxHeartbeats 1000000 in
theorem aliasCheck (l : List Int) (n : Nat) (a : Option Addr) (ca : Nat) (w : World) (h : Sa w a (ints l)) (hn : l.length = n) :
    Calls Try.prog 46 #[.slice a n ca] w fun e w' => e = .returned (.int .i64 (chkA l)) ∧ w = w' := by
  have HN := Lib.hid hn; have HS := Lib.hid h
  clear h
  have e2 : chkA l = if n < 1 ∨ 12 < n then 2 else if l.any (fun x => decide (x < 0 ∨ 100 < x)) then 1 else if sumA (nth l) n = 0 then 5 else 0 := by rw [← hn]; rfl
  by_cases hl : n < 1 ∨ 12 < n
  · rw [if_pos hl] at e2
    have E2 := Lib.hid e2
    clear e2 hn
    rcases hl with hl | hl
    · obtain rfl : n = 0 := by omega
      go_enter Try.func46, Try.ntmps46
      go_wp2_with fail
      go_ret
      exact ⟨by rw [E2.out]; rfl, rfl⟩
    · have d1 : decide ((n : Int) < 1) = false := decide_eq_false (by omega)
      have d2 : decide ((12 : Int) < (n : Int)) = true := decide_eq_true (by omega)
      go_enter Try.func46, Try.ntmps46
      go_wp2_with fail
      go_ret
      exact ⟨by rw [E2.out]; rfl, rfl⟩
  · rw [if_neg hl] at e2
    have E2 := Lib.hid e2
    have n1 : 1 ≤ n := by omega
    have n12 : n ≤ 12 := by omega
    have d1 : decide ((n : Int) < 1) = false := decide_eq_false (by omega)
    have d2 : decide ((12 : Int) < (n : Int)) = false := decide_eq_false (by omega)
    clear e2 hn hl
    go_enter Try.func46, Try.ntmps46
    go_wp2_with fail
    go_loop [3, 16] (fun s i => ∃ k : Nat, k ≤ n ∧ i = .int .i64 k ∧ s = .int .i64 (sumA (nth l) k) ∧ Hid (∀ j, j < k → 0 ≤ nth l j ∧ nth l j ≤ 100)) (fun _ i => n - (intOf i).toNat)
    case atStart => exact ⟨0, by omega, rfl, rfl, Lib.hid (fun j hj => by omega)⟩
    case round =>
      obtain ⟨k, hk, rfl, rfl, HG⟩ := hrel
      have sb := sumA_bd 100 k HG.out
      obtain ⟨S, hS⟩ : ∃ S, sumA (nth l) k = S := ⟨_, rfl⟩
      rw [hS] at sb
      have s1 : 0 ≤ S := sb.1
      have s2 : S ≤ 1200 := by omega
      have HSS := Lib.hid hS
      rw [hS]
      clear sb hS
      by_cases hlt : k < n
      · obtain ⟨b', off, rfl, hb, hc⟩ := HS.out.int k (by rw [HN.out]; exact hlt)
        have hmem := nth_mem l k (by rw [HN.out]; exact hlt)
        obtain ⟨x, hx⟩ : ∃ x, nth l k = x := ⟨_, rfl⟩
        rw [hx] at hc hmem
        by_cases hbad : x < 0 ∨ 100 < x
        · have E3 : Hid (chkA l = 1) := Lib.hid (by rw [E2.out, if_pos (List.any_eq_true.2 ⟨x, hmem, by simpa using hbad⟩)])
          clear hx hmem
          rcases hbad with hbad | hbad
          · have d3 : decide (x < 0) = true := decide_eq_true hbad
            go_wp2_with fail
            go_ret
            exact ⟨by rw [E3.out]; rfl, rfl⟩
          · have d3 : decide (x < 0) = false := decide_eq_false (by omega)
            have d4 : decide (100 < x) = true := decide_eq_true hbad
            go_wp2_with fail
            go_ret
            exact ⟨by rw [E3.out]; rfl, rfl⟩
        · have HG2 : Hid (∀ j, j < k + 1 → 0 ≤ nth l j ∧ nth l j ≤ 100) := Lib.hid fun j hj => by
            by_cases e : j = k
            · subst e; rw [hx]; omega
            · exact HG.out j (by omega)
          have HU : Hid (sumA (nth l) (k + 1) = S + x) := Lib.hid (by rw [sumA, HSS.out, hx])
          have d3 : decide (x < 0) = false := decide_eq_false (by omega)
          have d4 : decide (100 < x) = false := decide_eq_false (by omega)
          have x1 : 0 ≤ x := by omega
          have x2 : x ≤ 100 := by omega
          clear hx hmem HG hbad
          go_wp2_with fail
          exact ⟨⟨k + 1, by omega, by simp, by rw [HU.out], HG2⟩, by simp only [intOf]; omega⟩
      · obtain rfl : k = n := by omega
        have E3 : chkA l = if sumA (nth l) k = 0 then 5 else 0 := by
          rw [E2.out, if_neg]
          intro hany
          obtain ⟨x, hx, hb⟩ := List.any_eq_true.1 hany
          obtain ⟨j, hj, rfl⟩ := List.getElem_of_mem hx
          have := HG.out j (by have := HN.out; omega)
          have e : nth l j = l[j] := by simp [nth, hj]
          rw [e] at this
          simp at hb; omega
        rw [HSS.out] at E3
        have H3 := Lib.hid E3
        clear HG E2 E3 HSS
        by_cases h0 : S = 0
        · subst h0
          go_wp2_with fail
          go_ret
          exact ⟨by rw [H3.out]; rfl, rfl⟩
        · have z0 : (S == 0) = false := beq_eq_false_iff_ne.2 h0
          have H4 : Hid (chkA l = 0) := Lib.hid (by rw [H3.out, if_neg h0])
          go_wp2_with fail
          go_ret
          exact ⟨by rw [H4.out]; rfl, rfl⟩

theorem colInfo : (Try.prog.info? 41).map (fun i => (i.zero, i.size, i.bytes)) = some (some (.agg #[.int .i64 0, .int .i64 0]), 2, 16) := by kernel_rfl
theorem madeCols (n : Nat) : madeCells (Value.cells (.agg #[.int .i64 0, .int .i64 0])) (n * 2) = rowCells (n * 2) (fun _ => 0) := by
  apply Array.ext
  · rw [size_madeCells, rowCells_size]
  · intro i h1 h2
    have e1 : (madeCells (Value.cells (.agg #[.int .i64 0, .int .i64 0])) (n * 2))[i] = Value.int .i64 0 := by
      have : i % 2 = 0 ∨ i % 2 = 1 := by omega
      rcases this with e | e <;> simp [madeCells, Value.cells, e]
    have e2 : (rowCells (n * 2) (fun _ => 0))[i] = Value.int .i64 0 := by simp [rowCells]
    rw [e1, e2]
/-- make([]api.Column, n) -/
theorem make_cols (n : Nat) (h : n ≤ 1000000) (w : World) : Sem.run Try.prog (Instr.makeSlice 37 (.int .i64 (n : Int)) (.int .i64 (n : Int))) w = .ok (.slice (some ⟨w.heap.size, 0, none⟩) n n) (w.alloc (.cells (rowCells (n * 2) (fun _ => 0)) 41)) := by
  cases hi : Try.prog.info? 41 with
  | none => have := colInfo; rw [hi] at this; cases this
  | some i0 =>
    have hci := colInfo
    rw [hi] at hci
    simp only [Option.map_some, Option.some.injEq, Prod.mk.injEq] at hci
    obtain ⟨hz0, hz1, hz2⟩ := hci
    have := run_make (P := Try.prog) w 37 41 i0 (.agg #[.int .i64 0, .int .i64 0]) Try.underlying37 hi hz0 .i64 .i64 n n (by omega) (by omega) (by rw [hz2]; omega) (by omega)
    rw [this, hz1, Int.toNat_natCast, madeCols]

def colE (O : Nat) (C : List Int) (n : Nat) : Ent := ⟨41, .slice (some ⟨O, 0, none⟩) (n * 2) (n * 2), ints C⟩
def intE (G : Nat) (l : List Int) (n : Nat) : Ent := ⟨3, .slice (some ⟨G, 0, none⟩) n n, ints l⟩
theorem Fr.makeCols {w0 w : World} {L : List Ent} (h : Fr w0 w L) (n : Nat) (hl : n ≤ 100000) : Fr w0 (w.alloc (.cells (rowCells (n * 2) (fun _ => 0)) 41)) (colE w.heap.size (List.replicate (n * 2) 0) n :: L) :=
  h.new 41 (rowCells (n * 2) (fun _ => 0)) (ints (List.replicate (n * 2) 0)) (by simp [rowCells, ints, List.map_const']) (n * 2) (by simp [ints_len]) (by omega)
/-- the least so far -/
def SmOk (left done : List Int) (i : Nat) (v : Int) : Prop := (v = -1 ∧ ∀ j, j < i → nth done j = 1) ∨ ∃ s : Nat, v = s ∧ s < i ∧ nth done s = 0 ∧ ∀ j, j < i → nth done j = 0 → nth left s ≤ nth left j
def GrOk (left done : List Int) (i : Nat) (v : Int) : Prop := (v = -1 ∧ ∀ j, j < i → nth done j = 1) ∨ ∃ s : Nat, v = s ∧ s < i ∧ nth done s = 0 ∧ ∀ j, j < i → nth done j = 0 → nth left j ≤ nth left s
theorem sm_done {left done : List Int} {i : Nat} {v : Int} (h : SmOk left done i v) (hd : nth done i = 1) : SmOk left done (i + 1) v := by
  rcases h with ⟨rfl, h⟩ | ⟨s, rfl, h1, h2, h3⟩
  · exact .inl ⟨rfl, fun j hj => by rcases Nat.lt_or_eq_of_le (Nat.le_of_lt_succ hj) with e | rfl; exact h j e; exact hd⟩
  · exact .inr ⟨s, rfl, by omega, h2, fun j hj e => by
      rcases Nat.lt_or_eq_of_le (Nat.le_of_lt_succ hj) with e2 | rfl
      · exact h3 j e2 e
      · omega⟩
theorem gr_done {left done : List Int} {i : Nat} {v : Int} (h : GrOk left done i v) (hd : nth done i = 1) : GrOk left done (i + 1) v := by
  rcases h with ⟨rfl, h⟩ | ⟨s, rfl, h1, h2, h3⟩
  · exact .inl ⟨rfl, fun j hj => by rcases Nat.lt_or_eq_of_le (Nat.le_of_lt_succ hj) with e | rfl; exact h j e; exact hd⟩
  · exact .inr ⟨s, rfl, by omega, h2, fun j hj e => by
      rcases Nat.lt_or_eq_of_le (Nat.le_of_lt_succ hj) with e2 | rfl
      · exact h3 j e2 e
      · omega⟩
theorem sm_first {left done : List Int} {i : Nat} (h : ∀ j, j < i → nth done j = 1) (hd : nth done i = 0) : SmOk left done (i + 1) (i : Int) := .inr ⟨i, rfl, by omega, hd, fun j hj e => by
  rcases Nat.lt_or_eq_of_le (Nat.le_of_lt_succ hj) with e2 | rfl
  · have := h j e2; omega
  · exact Int.le_refl _⟩
theorem gr_first {left done : List Int} {i : Nat} (h : ∀ j, j < i → nth done j = 1) (hd : nth done i = 0) : GrOk left done (i + 1) (i : Int) := .inr ⟨i, rfl, by omega, hd, fun j hj e => by
  rcases Nat.lt_or_eq_of_le (Nat.le_of_lt_succ hj) with e2 | rfl
  · have := h j e2; omega
  · exact Int.le_refl _⟩
theorem sm_keep {left done : List Int} {i s : Nat} (h1 : s < i) (h2 : nth done s = 0) (h3 : ∀ j, j < i → nth done j = 0 → nth left s ≤ nth left j) (h : nth left s ≤ nth left i) : SmOk left done (i + 1) (s : Int) := .inr ⟨s, rfl, by omega, h2, fun j hj e => by
  rcases Nat.lt_or_eq_of_le (Nat.le_of_lt_succ hj) with e2 | rfl
  · exact h3 j e2 e
  · exact h⟩
theorem sm_new {left done : List Int} {i s : Nat} (hd : nth done i = 0) (h3 : ∀ j, j < i → nth done j = 0 → nth left s ≤ nth left j) (h : nth left i < nth left s) : SmOk left done (i + 1) (i : Int) := .inr ⟨i, rfl, by omega, hd, fun j hj e => by
  rcases Nat.lt_or_eq_of_le (Nat.le_of_lt_succ hj) with e2 | rfl
  · have := h3 j e2 e; omega
  · exact Int.le_refl _⟩
theorem gr_keep {left done : List Int} {i s : Nat} (h1 : s < i) (h2 : nth done s = 0) (h3 : ∀ j, j < i → nth done j = 0 → nth left j ≤ nth left s) (h : nth left i ≤ nth left s) : GrOk left done (i + 1) (s : Int) := .inr ⟨s, rfl, by omega, h2, fun j hj e => by
  rcases Nat.lt_or_eq_of_le (Nat.le_of_lt_succ hj) with e2 | rfl
  · exact h3 j e2 e
  · exact h⟩
theorem gr_new {left done : List Int} {i s : Nat} (hd : nth done i = 0) (h3 : ∀ j, j < i → nth done j = 0 → nth left j ≤ nth left s) (h : nth left s ≤ nth left i) : GrOk left done (i + 1) (i : Int) := .inr ⟨i, rfl, by omega, hd, fun j hj e => by
  rcases Nat.lt_or_eq_of_le (Nat.le_of_lt_succ hj) with e2 | rfl
  · have := h3 j e2 e; omega
  · exact Int.le_refl _⟩

def fillA (f : Nat → Int) (n k : Nat) : List Int := (List.range n).map fun i => if i < k then f i else 0
theorem fillA_len (f : Nat → Int) (n k : Nat) : (fillA f n k).length = n := by simp [fillA]
theorem fillA_nth (f : Nat → Int) (n k i : Nat) (h : i < n) : nth (fillA f n k) i = if i < k then f i else 0 := by simp [fillA, nth, h]
theorem fillA_zero (f : Nat → Int) (n : Nat) : List.replicate n 0 = fillA f n 0 := ext_nth (by simp [fillA]) (fun i hi => by
  rw [List.length_replicate] at hi
  rw [nth_rep _ _ _ hi, fillA_nth _ _ _ _ hi, if_neg (by omega)])
theorem fillA_set (f : Nat → Int) (n k : Nat) (h : k < n) : (fillA f n k).set k (f k) = fillA f n (k + 1) := ext_nth (by simp [fillA]) (fun i hi => by
  rw [List.length_set, fillA_len] at hi
  rw [nth_set _ _ _ _ (by rw [fillA_len]; exact h), fillA_nth _ _ _ _ hi, fillA_nth _ _ _ _ hi]
  by_cases e : i = k
  · subst e; rw [if_pos rfl, if_pos (by omega)]
  · rw [if_neg e]
    by_cases h2 : i < k
    · rw [if_pos h2, if_pos (by omega)]
    · rw [if_neg h2, if_neg (by omega)])
def BuildSaid (l : List Int) (n : Nat) (w : World) (e : Ending) (w' : World) : Prop :=
  (chkA l ≠ 0 ∧ e = .returned (.tuple #[.slice .none 0 0, .int .i64 (chkA l)]) ∧ Fr w w' []) ∨
  ∃ (C : List Int) (O : Nat), chkA l = 0 ∧ TabOk l C n (sumA (nth l) n) ∧ e = .returned (.tuple #[.slice (some ⟨O, 0, .none⟩) n n, .int .i64 0]) ∧ Fr w w' [colE O C n]
set_option maxRecDepth 100000 in
set_option maxHeartbeats 8000000 in
theorem aliasBuild (l : List Int) (n : Nat) (a : Option Addr) (ca : Nat) (w : World) (h : Sa w a (ints l)) (hn : l.length = n) :
    Calls Try.prog 21 #[.slice a n ca] w (BuildSaid l n w) := by
  have HN := Lib.hid hn; have HS := Lib.hid h
  clear h
  by_cases h0 : chkA l ≠ 0
  · obtain ⟨er, her⟩ : ∃ er, chkA l = er := ⟨_, rfl⟩
    have HNE := Lib.hid h0
    rw [her] at h0
    have HE := Lib.hid her
    have z : (er != 0) = true := bne_iff_ne.2 h0
    clear her h0 hn
    go_enter Try.func21, Try.ntmps21
    go_wp2_with fail
    refine (aliasCheck l n _ _ _ HS.out HN.out).mono ?_; rintro e w' ⟨rfl, rfl⟩
    rw [HE.out]
    go_wp2_with fail
    go_ret2
    exact .inl ⟨HNE.out, by rw [HE.out]; rfl, Fr.start w⟩
  · have hc : chkA l = 0 := by omega
    have HC := Lib.hid hc
    have ok := chkA_ok hc
    rw [hn] at ok
    have OK := Lib.hid ok
    have n1 := ok.n1
    have n12 := ok.n12
    obtain ⟨S, hS⟩ : ∃ S, sumA (nth l) n = S := ⟨_, rfl⟩
    rw [hS] at ok
    have OK' := Lib.hid ok
    have HSS := Lib.hid hS
    have s0 := ok.pos
    have s12 := ok.s12
    have hmk := make_ints n (by omega)
    have hmc := make_cols n (by omega)
    clear hc h0 hn ok hS OK
    go_enter Try.func21, Try.ntmps21
    go_wp2_with fail
    refine (aliasCheck l n _ _ _ HS.out HN.out).mono ?_; rintro e w' ⟨rfl, rfl⟩
    rw [HC.out]
    go_wp2_with fail
    go_loop [6, 27] (fun s i => ∃ k : Nat, k ≤ n ∧ i = .int .i64 k ∧ ∃ z : Int, s = .int .i64 z ∧ 0 ≤ z ∧ z ≤ k * 100 ∧ Hid (z = sumA (nth l) k)) (fun _ i => n - (intOf i).toNat)
    case atStart => exact ⟨0, by omega, rfl, 0, rfl, by omega, by omega, Lib.hid rfl⟩
    case round =>
      obtain ⟨k, hk, rfl, z, rfl, z1, z2, HZ⟩ := hrel
      by_cases hlt : k < n
      · obtain ⟨b', off, rfl, hb, hc⟩ := HS.out.int k (by rw [HN.out]; exact hlt)
        have hbd := OK'.out.bd k hlt
        have hst : sumA (nth l) (k + 1) = sumA (nth l) k + nth l k := rfl
        obtain ⟨x, hx⟩ : ∃ x, nth l k = x := ⟨_, rfl⟩
        rw [hx] at hc hbd hst
        have HZ2 : Hid (z + x = sumA (nth l) (k + 1)) := Lib.hid (by rw [hst, HZ.out])
        obtain ⟨x1, x2⟩ := hbd
        clear hx hst HZ hmk hmc
        go_wp2_with fail
        go_round
        case rel => exact ⟨k + 1, by omega, by go_num, _, rfl, by omega, by omega, HZ2⟩
        case measure => simp only [intOf]; omega
      · obtain rfl : k = n := by omega
        obtain rfl : z = S := by rw [HZ.out, HSS.out]
        clear HZ z1 z2
        go_wp2_with fail
        have F1 := (Fr.start w).makeInts k (by omega)
        rw [fillA_zero (fun i => nth l i * (k : Int)) k] at F1
        obtain ⟨L, hL⟩ : ∃ L, w.heap.size = L := ⟨_, rfl⟩
        rw [hL] at F1 ⊢
        clear hmk
        go_loopw [39] (fun i wr => ∃ j : Nat, j ≤ k ∧ i = .int .i64 j ∧ wr.heap.size = L + 1 ∧ Fr w wr [intE L (fillA (fun i => nth l i * (k : Int)) k j) k]) (fun i _ => k - (intOf i).toNat)
        case atStart => exact ⟨0, by omega, rfl, by simp [hL], F1⟩
        case round =>
          obtain ⟨j, hj, rfl, hsz, hfr⟩ := hrel
          clear F1
          by_cases hlt : j < k
          · obtain ⟨b', off, rfl, hb, hc⟩ := (hfr.old HS.out).int j (by rw [HN.out]; exact hlt)
            have hbd := OK'.out.bd j hlt
            have hst := fillA_set (fun i => nth l i * (k : Int)) k j hlt
            obtain ⟨_, e, _, c1, f1⟩ := hfr.openI j (by rw [fillA_len]; exact hlt)
            cases e
            obtain ⟨x, hx⟩ : ∃ x, nth l j = x := ⟨_, rfl⟩
            simp only [hx] at hc hbd hst
            obtain ⟨x1, x2⟩ := hbd
            have m1 : 0 ≤ x * (k : Int) := Int.mul_nonneg x1 (by omega)
            have m2 : x * (k : Int) ≤ 100 * 12 := Int.mul_le_mul x2 (by omega) (by omega) (by omega)
            obtain ⟨P, hP⟩ : ∃ P, x * (k : Int) = P := ⟨_, rfl⟩
            rw [hP] at m1 m2 hst
            obtain ⟨u, hu⟩ : ∃ u, nth (fillA (fun i => nth l i * (k : Int)) k j) j = u := ⟨_, rfl⟩
            rw [hu] at c1
            have F2 := hfr.setInt j P
            rw [hst] at F2
            have HF2 := Lib.hid F2
            have HX := Lib.hid hx
            have d1 : (0 : Int) ≤ (j : Int) := by omega
            have d2 : (j : Int) < (k : Int) := by omega
            clear hx hst hu F2 hfr
            go_wp2_with fail
            exact ⟨⟨j + 1, by omega, by simp, by simp [hsz], HF2.out⟩, by simp only [intOf]; omega⟩
          · obtain rfl : j = k := by omega
            have hmk := make_ints j (by omega)
            have HB : Hid (BInv l (fillA (fun i => nth l i * (j : Int)) j j) (List.replicate j 0) (List.replicate (j * 2) 0) j z 0) := Lib.hid (binv_start OK'.out _ (fillA_len _ _ _) (fun i hi => by rw [fillA_nth _ _ _ _ hi, if_pos hi]))
            have G1 := hfr.makeCols j (by omega)
            have G2 := (G1.makeInts' j (by omega) (L + 1 + 1) (by simp [hsz])).rot.rot
            rw [hsz] at G2
            have HG2 := Lib.hid G2
            clear G1 G2 hfr
            go_wp2_with fail
            obtain ⟨O, hO⟩ : ∃ O, L + 1 = O := ⟨_, rfl⟩
            rw [hO] at HG2 ⊢
            obtain ⟨D, hD⟩ : ∃ D, O + 1 = D := ⟨_, rfl⟩
            rw [hD] at HG2 ⊢
            have n1' : L ≠ O := by omega
            have n2' : O ≠ L := by omega
            have n3' : L ≠ D := by omega
            have n4' : D ≠ L := by omega
            have n5' : O ≠ D := by omega
            have n6' : D ≠ O := by omega
            clear hL hO hD hsz hmk hmc
            go_loopw [56] (fun i wr => ∃ (r : Nat) (left done C : List Int), r ≤ j ∧ i = .int .i64 r ∧ Hid (BInv l left done C j z r) ∧ Fr w wr [colE O C j, intE L left j, intE D done j]) (fun i _ => j - (intOf i).toNat)
            case atStart => exact ⟨0, _, _, _, by omega, rfl, HB, HG2.out⟩
            case round =>
              obtain ⟨r, left, done, C, hr, rfl, HI, hfr⟩ := hrel
              clear HG2 HB
              by_cases hrn : r < j
              · have HF := Lib.hid hfr
                clear hfr
                go_wp2_with fail
                go_loop [14, 15, 60] (fun sm gr i => ∃ (t : Nat) (v u : Int), t ≤ j ∧ i = .int .i64 t ∧ sm = .int .i64 v ∧ gr = .int .i64 u ∧ Hid (SmOk left done t v) ∧ Hid (GrOk left done t u)) (fun _ _ i => j - (intOf i).toNat)
                case atStart => exact ⟨0, -1, -1, by omega, rfl, rfl, rfl, Lib.hid (.inl ⟨rfl, fun j hj => by omega⟩), Lib.hid (.inl ⟨rfl, fun j hj => by omega⟩)⟩
                case round =>
                  obtain ⟨t, v, u, ht, rfl, rfl, rfl, HSM, HGR⟩ := hrel
                  by_cases htj : t < j
                  · obtain ⟨_, e, _, c1, -⟩ := HF.out.swap.openI t (by rw [HI.out.lenL]; exact htj)
                    cases e
                    obtain ⟨_, e, _, c2, -⟩ := HF.out.rot.openI t (by rw [HI.out.lenD]; exact htj)
                    cases e
                    have hd := HI.out.dn t htj
                    obtain ⟨x, hx⟩ : ∃ x, nth left t = x := ⟨_, rfl⟩
                    rw [hx] at c1
                    have HX := Lib.hid hx
                    clear hx
                    have d1 : (0 : Int) ≤ (t : Int) := by omega
                    have d2 : (t : Int) < (j : Int) := by omega
                    rcases hd with hd | hd
                    · rw [hd] at c2
                      have HD := Lib.hid hd
                      rcases HSM.out with ⟨rfl, hall⟩ | ⟨s, rfl, hs, ds, hmin⟩
                      · rcases HGR.out with ⟨rfl, -⟩ | ⟨g, rfl, hg, dg, -⟩
                        · have SM2 : Hid (SmOk left done (t + 1) (t : Int)) := Lib.hid (sm_first hall hd)
                          have GR2 : Hid (GrOk left done (t + 1) (t : Int)) := Lib.hid (gr_first hall hd)
                          clear hall hd HSM HGR
                          go_wp2_with fail
                          go_round
                          case rel => exact ⟨t + 1, _, _, by omega, by go_num, rfl, rfl, SM2, GR2⟩
                          case measure => simp only [intOf]; omega
                        · have := hall g hg; omega
                      · rcases HGR.out with ⟨rfl, hall⟩ | ⟨g, rfl, hg, dg, hmax⟩
                        · have := hall s hs; omega
                        · obtain ⟨_, e, _, c3, -⟩ := HF.out.swap.openI s (by rw [HI.out.lenL]; omega)
                          cases e
                          obtain ⟨_, e, _, c4, -⟩ := HF.out.swap.openI g (by rw [HI.out.lenL]; omega)
                          cases e
                          obtain ⟨y, hy⟩ : ∃ y, nth left s = y := ⟨_, rfl⟩
                          obtain ⟨y', hy'⟩ : ∃ y, nth left g = y := ⟨_, rfl⟩
                          rw [hy] at c3
                          rw [hy'] at c4
                          have e1 : decide ((s : Int) < 0) = false := decide_eq_false (by omega)
                          have e2 : decide ((g : Int) < 0) = false := decide_eq_false (by omega)
                          have e3 : (s : Int) < (j : Int) := by omega
                          have e4 : (g : Int) < (j : Int) := by omega
                          have HMIN := Lib.hid hmin; have HMAX := Lib.hid hmax; have HDS := Lib.hid ds; have HDG := Lib.hid dg; have HY := Lib.hid hy; have HY' := Lib.hid hy'
                          clear hmin hmax ds dg hy hy' hd
                          by_cases k1 : x < y
                          · have SM2 : Hid (SmOk left done (t + 1) (t : Int)) := Lib.hid (sm_new HD.out HMIN.out (by rw [HX.out, HY.out]; exact k1))
                            have f1 : decide (x < y) = true := decide_eq_true k1
                            by_cases k2 : y' ≤ x
                            · have GR2 : Hid (GrOk left done (t + 1) (t : Int)) := Lib.hid (gr_new HD.out HMAX.out (by rw [HX.out, HY'.out]; exact k2))
                              have f2 : decide (y' ≤ x) = true := decide_eq_true k2
                              go_wp2_with fail
                              go_round
                              case rel => exact ⟨t + 1, _, _, by omega, by go_num, rfl, rfl, SM2, GR2⟩
                              case measure => simp only [intOf]; omega
                            · have GR2 : Hid (GrOk left done (t + 1) (g : Int)) := Lib.hid (gr_keep hg HDG.out HMAX.out (by rw [HX.out, HY'.out]; omega))
                              have f2 : decide (y' ≤ x) = false := decide_eq_false k2
                              go_wp2_with fail
                              go_round
                              case rel => exact ⟨t + 1, _, _, by omega, by go_num, rfl, rfl, SM2, GR2⟩
                              case measure => simp only [intOf]; omega
                          · have SM2 : Hid (SmOk left done (t + 1) (s : Int)) := Lib.hid (sm_keep hs HDS.out HMIN.out (by rw [HX.out, HY.out]; omega))
                            have f1 : decide (x < y) = false := decide_eq_false k1
                            by_cases k2 : y' ≤ x
                            · have GR2 : Hid (GrOk left done (t + 1) (t : Int)) := Lib.hid (gr_new HD.out HMAX.out (by rw [HX.out, HY'.out]; exact k2))
                              have f2 : decide (y' ≤ x) = true := decide_eq_true k2
                              go_wp2_with fail
                              go_round
                              case rel => exact ⟨t + 1, _, _, by omega, by go_num, rfl, rfl, SM2, GR2⟩
                              case measure => simp only [intOf]; omega
                            · have GR2 : Hid (GrOk left done (t + 1) (g : Int)) := Lib.hid (gr_keep hg HDG.out HMAX.out (by rw [HX.out, HY'.out]; omega))
                              have f2 : decide (y' ≤ x) = false := decide_eq_false k2
                              go_wp2_with fail
                              go_round
                              case rel => exact ⟨t + 1, _, _, by omega, by go_num, rfl, rfl, SM2, GR2⟩
                              case measure => simp only [intOf]; omega
                    · rw [hd] at c2
                      have SM2 := Lib.hid (sm_done HSM.out hd)
                      have GR2 := Lib.hid (gr_done HGR.out hd)
                      clear hd
                      go_wp2_with fail
                      go_round
                      case rel => exact ⟨t + 1, v, u, by omega, by go_num, rfl, rfl, SM2, GR2⟩
                      case measure => simp only [intOf]; omega
                  · obtain rfl : t = j := by omega
                    obtain ⟨q, hq, dq⟩ := binv_any HI.out hrn
                    rcases HSM.out with ⟨rfl, hall⟩ | ⟨s, rfl, hs, ds, hmin⟩
                    · have := hall q hq; omega
                    rcases HGR.out with ⟨rfl, hall⟩ | ⟨g, rfl, hg, dg, hmax⟩
                    · have := hall q hq; omega
                    have HNX := Lib.hid (binv_step s0 HI.out hrn s g hs hg ds dg hmin hmax)
                    have hA := (binv_avg HI.out hrn).1 s hmin
                    have hB := (binv_avg HI.out hrn).2 g hmax
                    have ls := HI.out.lb s hs
                    have lg := HI.out.lb g hg
                    have F := HF.out
                    obtain ⟨_, e, _, o1, p1⟩ := F.openI (s * 2) (by rw [HI.out.lenC]; omega)
                    cases e
                    obtain ⟨_, e, _, o2, p2⟩ := F.openI (s * 2 + 1) (by rw [HI.out.lenC]; omega)
                    cases e
                    obtain ⟨_, e, _, o3, p3⟩ := F.swap.openI s (by rw [HI.out.lenL]; omega)
                    cases e
                    obtain ⟨_, e, _, o4, p4⟩ := F.swap.openI g (by rw [HI.out.lenL]; omega)
                    cases e
                    obtain ⟨_, e, _, o5, p5⟩ := F.rot.openI s (by rw [HI.out.lenD]; omega)
                    cases e
                    rw [ds] at o5
                    have hnc : (C.set (s * 2) (nth left s)).set (s * 2 + 1) (g : Int) = nextC left C s g := rfl
                    have hnl : nextL left z s g = if s = g then (left.set g (nth left g - (z - nth left s))).set g 0 else left.set g (nth left g - (z - nth left s)) := rfl
                    obtain ⟨y, hy⟩ : ∃ y, nth left s = y := ⟨_, rfl⟩
                    obtain ⟨y', hy'⟩ : ∃ y, nth left g = y := ⟨_, rfl⟩
                    obtain ⟨u1, hu1⟩ : ∃ y, nth C (s * 2) = y := ⟨_, rfl⟩
                    obtain ⟨u2, hu2⟩ : ∃ y, nth C (s * 2 + 1) = y := ⟨_, rfl⟩
                    rw [hy] at o3 hA ls hnc hnl
                    rw [hy'] at o4 hB lg hnl
                    rw [hu1] at o1
                    rw [hu2] at o2
                    obtain ⟨l1, l2⟩ := ls
                    obtain ⟨l3, l4⟩ := lg
                    have F1 := (F.setInt (s * 2) y).setInt (s * 2 + 1) (g : Int)
                    rw [hnc] at F1
                    have F2 := (F1.swap.setInt g (y' - (z - y))).drew
                    have HF2 := Lib.hid F2
                    have HNL := Lib.hid hnl
                    have d1 : (0 : Int) ≤ (s : Int) := by omega
                    have d2 : (s : Int) < (t : Int) := by omega
                    have d3 : (0 : Int) ≤ (g : Int) := by omega
                    have d4 : (g : Int) < (t : Int) := by omega
                    clear F F1 F2 hnc hnl hy hy' hu1 hu2 ds dg hmin hmax HSM HGR dq
                    go_wp2_with fail
                    go_region
                    have hnl := HNL.out
                    by_cases esg : s = g
                    · subst esg
                      rw [if_pos rfl] at hnl
                      obtain ⟨_, e, _, c6, f6⟩ := HF2.out.openI s (by rw [List.length_set, HI.out.lenL]; omega)
                      cases e
                      obtain ⟨u3, hu3⟩ : ∃ q, nth (left.set s (y' - (z - y))) s = q := ⟨_, rfl⟩
                      rw [hu3] at c6
                      have F3 := HF2.out.setInt s 0
                      rw [← hnl] at F3
                      have HF4 := Lib.hid ((F3.rot.setInt s 1).rot.rot.swap)
                      clear F3 hnl hu3 HNL
                      go_wp2_with fail
                      exact ⟨⟨r + 1, _, _, _, by omega, by simp, HNX, HF4.out⟩, by simp only [intOf]; omega⟩
                    · rw [if_neg esg] at hnl
                      have F3 := HF2.out
                      rw [← hnl] at F3
                      have HF4 := Lib.hid ((F3.rot.setInt s 1).rot.rot.swap)
                      have zsg : ((s : Int) == (g : Int)) = false := beq_eq_false_iff_ne.2 (by omega)
                      clear F3 hnl HNL
                      go_wp2_with fail
                      exact ⟨⟨r + 1, _, _, _, by omega, by simp, HNX, HF4.out⟩, by simp only [intOf]; omega⟩
              · obtain rfl : r = j := by omega
                have HT := Lib.hid (binv_end HI.out)
                go_wp2_with fail
                go_ret2
                exact .inr ⟨C, O, HC.out, by rw [HSS.out]; exact HT.out, rfl, hfr.sub (by simp)⟩
end Go.Proofs.Ytgblmbhbbjgdiaa
