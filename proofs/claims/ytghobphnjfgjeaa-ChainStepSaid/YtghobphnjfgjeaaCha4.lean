/- Contract of chain.Step. -/
import Derived.Test.YtghobphnjfgjeaaWCha1
import Derived.Test.YtghobphnjfgjeaaUrn
import Derived.Deep.DeepCutAuto
import Derived.Deep.CutRange
namespace Go.Proofs.Ytghobphnjfgjeaa
open Go.RowKit

theorem ratInfo : (Try.prog.info? 25).map (fun i => (i.zero, i.size, i.bytes)) = some (some (.agg #[.int .i64 0, .int .i64 0]), 2, 16) := by kernel_rfl
theorem madeRats (n : Nat) : madeCells (Value.cells (.agg #[.int .i64 0, .int .i64 0])) (n * 2) = rowCells (n * 2) (fun _ => 0) := by
  apply Array.ext
  · rw [size_madeCells, rowCells_size]
  · intro i h1 h2
    have e1 : (madeCells (Value.cells (.agg #[.int .i64 0, .int .i64 0])) (n * 2))[i] = Value.int .i64 0 := by
      have : i % 2 = 0 ∨ i % 2 = 1 := by omega
      rcases this with e | e <;> simp [madeCells, Value.cells, e]
    have e2 : (rowCells (n * 2) (fun _ => 0))[i] = Value.int .i64 0 := by simp [rowCells]
    rw [e1, e2]
theorem make_rats (n : Nat) (h : n ≤ 1000000) (w : World) : Sem.run Try.prog (Instr.makeSlice 49 (.int .i64 (n : Int)) (.int .i64 (n : Int))) w = .ok (.slice (some ⟨w.heap.size, 0, none⟩) n n) (w.alloc (.cells (rowCells (n * 2) (fun _ => 0)) 25)) := by
  cases hi : Try.prog.info? 25 with
  | none => have := ratInfo; rw [hi] at this; cases this
  | some i0 =>
    have hci := ratInfo
    rw [hi] at hci
    simp only [Option.map_some, Option.some.injEq, Prod.mk.injEq] at hci
    obtain ⟨hz0, hz1, hz2⟩ := hci
    have := run_make (P := Try.prog) w 49 25 i0 (.agg #[.int .i64 0, .int .i64 0]) Try.underlying49 hi hz0 .i64 .i64 n n (by omega) (by omega) (by rw [hz2]; omega) (by omega)
    rw [this, hz1, Int.toNat_natCast, madeRats]
def colR (O : Nat) (C : List Int) (n : Nat) : Ent := ⟨25, .slice (some ⟨O, 0, none⟩) (n * 2) (n * 2), ints C⟩
theorem Fr.makeRats {w0 w : World} {L : List Ent} (h : Fr w0 w L) (n : Nat) (hl : n ≤ 100000) : Fr w0 (w.alloc (.cells (rowCells (n * 2) (fun _ => 0)) 25)) (colR w.heap.size (List.replicate (n * 2) 0) n :: L) :=
  h.new 25 (rowCells (n * 2) (fun _ => 0)) (ints (List.replicate (n * 2) 0)) (by simp [rowCells, ints, List.map_const']) (n * 2) (by simp [ints_len]) (by omega)
/-- all that goes from a node -/
def outA (M : List (List Int)) (n i : Nat) : Int := sK (fun k => mt M i k) n
set_option maxRecDepth 100000 in
theorem chaOut (l : List Int) (n : Nat) (a : Option Addr) (ca : Nat) (w : World) (h : Sa w a (ints l)) (hn : l.length = n) (h5 : n ≤ 5) (hb : ∀ k, 0 ≤ nth l k ∧ nth l k ≤ 20) :
    Calls Try.prog 52 #[.slice a n ca] w fun e w' => e = .returned (.int .i64 (sK (fun k => nth l k) n)) ∧ w = w' := by
  have HN := Lib.hid hn; have HS := Lib.hid h; have HB := Lib.hid hb
  clear h hn hb
  go_enter Try.func52, Try.ntmps52
  go_wp2_with fail
  go_loop [3, 8] (fun s i => ∃ (k : Nat) (V : Int), k ≤ n ∧ i = .int .i64 k ∧ s = .int .i64 V ∧ 0 ≤ V ∧ V ≤ 20 * (k : Int) ∧ Hid (sK (fun k => nth l k) k = V)) (fun _ i => n - (intOf i).toNat)
  case atStart => exact ⟨0, 0, by omega, rfl, rfl, by omega, by omega, Lib.hid rfl⟩
  case round =>
    obtain ⟨k, V, hk, rfl, rfl, v0, v1, HV⟩ := hrel
    by_cases hlt : k < n
    · obtain ⟨b', off, rfl, hb, cx⟩ := HS.out.int k (by rw [HN.out]; exact hlt)
      have hbd := HB.out k
      have hst : sK (fun k => nth l k) (k + 1) = V + nth l k := by rw [← HV.out]; rfl
      obtain ⟨x, hx⟩ : ∃ x, nth l k = x := ⟨_, rfl⟩
      rw [hx] at cx hbd hst
      have HST := Lib.hid hst
      obtain ⟨x0, x1⟩ := hbd
      have i1 : (0 : Int) ≤ (k : Int) := by omega
      have i2 : (k : Int) < (n : Int) := by omega
      clear hx hst
      go_wp2_with fail
      exact ⟨⟨k + 1, V + x, by omega, by simp, rfl, by omega, by omega, HST⟩, by simp only [intOf]; omega⟩
    · obtain rfl : k = n := by omega
      go_wp2_with fail
      go_ret
      exact ⟨by rw [HV.out]; rfl, rfl⟩
set_option maxRecDepth 100000 in
theorem chaStep_no (R : List Rw) (n m : Nat) (a b : Option Addr) (ca cb : Nat) (w : World) (h : Mx w a R) (hn : R.length = n) (hl : ∀ p ∈ R, p.2.2.length ≤ maxLen) (er : Int) (he : chkC (mOf R) = er) (h0 : er ≠ 0) :
    Calls Try.prog 32 #[.slice a n ca, .slice b m cb] w fun e w' => e = .returned (.tuple #[.slice none 0 0, .int .i64 er]) ∧ w = w' := by
  have HS := Lib.hid h; have HN := Lib.hid hn; have HL := Lib.hid hl; have HE := Lib.hid he
  have z : (er != 0) = true := by rw [bne_iff_ne]; exact h0
  clear h hn hl he
  go_enter Try.func32, Try.ntmps32
  go_wp2_with fail
  refine (chaChk R n _ _ _ HS.out HN.out HL.out).mono ?_; rintro e w' ⟨rfl, rfl⟩
  rw [HE.out]
  go_wp2_with fail
  go_ret2
  exact ⟨rfl, rfl⟩
/-- part of node i that goes to node k -/
def pnK (M : List (List Int)) (n i k : Nat) : Int := if outA M n i = 0 then (if i = k then 1 else 0) else mt M i k
def pqK (M : List (List Int)) (n i : Nat) : Int := if outA M n i = 0 then 1 else outA M n i
/-- what stands at node k when i rows, and of the next one the first c nodes, are done -/
def atK (c : Nat → Nat → Int) (i col k : Nat) : Int := if k < col then sK (fun j => c j k) (i + 1) else sK (fun j => c j k) i
structure RowOk (C : List Int) (n : Nat) (D : Int) (S : Nat → Int) : Prop where
  len : C.length = n * 2
  rat : ∀ k, k < n → Rat1 (nth C (k * 2)) (nth C (k * 2 + 1))
  val : ∀ k, k < n → nth C (k * 2) * D = S k * nth C (k * 2 + 1)
theorem part_red {a b p q X Y c D : Int} (hq : 0 < q) (h1 : X * q = p * Y) (h2 : a * p * D = c * (b * q)) : a * X * D = c * (b * Y) := by
  have hq0 : q ≠ 0 := by omega
  refine Int.eq_of_mul_eq_mul_right hq0 ?_
  calc a * X * D * q = a * (X * q) * D := by grind
    _ = a * p * D * Y := by rw [h1]; grind
    _ = c * (b * q) * Y := by rw [h2]
    _ = c * (b * Y) * q := by grind
theorem rat_step {X Y U V X' Y' a b p q c S D : Int} (hY : 0 < Y) (hV : 0 < V) (hb : 0 < b) (hq : 0 < q) (h1 : U * (b * q) = a * p * V) (h2 : a * p * D = c * (b * q)) (h3 : X * D = S * Y) (h4 : X' * (Y * V) = (X * V + U * Y) * Y') : X' * D = (S + c) * Y' := by
  have hbq : b * q ≠ 0 := Int.ne_of_gt (Int.mul_pos hb hq)
  have hu : U * D = c * V := by
    refine Int.eq_of_mul_eq_mul_right hbq ?_
    calc U * D * (b * q) = U * (b * q) * D := by rw [Int.mul_assoc, Int.mul_comm D, ← Int.mul_assoc]
      _ = a * p * V * D := by rw [h1]
      _ = a * p * D * V := by rw [Int.mul_assoc, Int.mul_comm V, ← Int.mul_assoc]
      _ = c * (b * q) * V := by rw [h2]
      _ = c * V * (b * q) := by rw [Int.mul_assoc, Int.mul_comm (b * q), ← Int.mul_assoc]
  have hYV : Y * V ≠ 0 := Int.ne_of_gt (Int.mul_pos hY hV)
  refine Int.eq_of_mul_eq_mul_right hYV ?_
  calc X' * D * (Y * V) = X' * (Y * V) * D := by rw [Int.mul_assoc, Int.mul_comm D, ← Int.mul_assoc]
    _ = (X * V + U * Y) * Y' * D := by rw [h4]
    _ = (X * D * V + U * D * Y) * Y' := by grind
    _ = (S * Y * V + c * V * Y) * Y' := by rw [h3, hu]
    _ = (S + c) * Y' * (Y * V) := by grind
/-- all 0/1, the first k of them so far -/
def oneQ (n k : Nat) : List Int := (List.range (n * 2)).map fun j => if j % 2 = 1 ∧ j / 2 < k then 1 else 0
theorem oneQ_len (n k : Nat) : (oneQ n k).length = n * 2 := by simp [oneQ]
theorem oneQ_nth (n k j : Nat) (h : j < n * 2) : nth (oneQ n k) j = if j % 2 = 1 ∧ j / 2 < k then 1 else 0 := by simp [nth, oneQ, h]
theorem oneQ_zero (n : Nat) : List.replicate (n * 2) 0 = oneQ n 0 := ext_nth (by simp [oneQ]) (fun i hi => by
  rw [List.length_replicate] at hi
  rw [nth_rep _ _ _ hi, oneQ_nth _ _ _ hi, if_neg (by omega)])
theorem oneQ_step (n k : Nat) (h : k < n) : (oneQ n k).set (k * 2 + 1) 1 = oneQ n (k + 1) := ext_nth (by simp [oneQ]) (fun i hi => by
  rw [List.length_set, oneQ_len] at hi
  rw [nth_set _ _ _ _ (by rw [oneQ_len]; omega), oneQ_nth _ _ _ hi, oneQ_nth _ _ _ hi]
  by_cases e : i = k * 2 + 1
  · rw [if_pos e, if_pos (by omega)]
  · rw [if_neg e]
    by_cases h2 : i % 2 = 1 ∧ i / 2 < k
    · rw [if_pos h2, if_pos (by omega)]
    · rw [if_neg h2, if_neg (by omega)])
theorem oneQ_ok (n : Nat) (D : Int) : RowOk (oneQ n n) n D (fun _ => 0) := by
  have e1 : ∀ k, k < n → nth (oneQ n n) (k * 2) = 0 := fun k hk => by rw [oneQ_nth _ _ _ (by omega)]; exact if_neg (by omega)
  have e2 : ∀ k, k < n → nth (oneQ n n) (k * 2 + 1) = 1 := fun k hk => by rw [oneQ_nth _ _ _ (by omega)]; exact if_pos (by omega)
  refine ⟨oneQ_len n n, fun k hk => ?_, fun k hk => ?_⟩
  · rw [e1 k hk, e2 k hk]; unfold Rat1; decide
  · rw [e1 k hk]; simp
theorem RowOk.put {C : List Int} {n : Nat} {D : Int} {S : Nat → Int} (h : RowOk C n D S) (k : Nat) (hk : k < n) (X Y s : Int) (hr : Rat1 X Y) (hv : X * D = s * Y) (S' : Nat → Int) (hS : ∀ j, j < n → S' j = if j = k then s else S j) :
    RowOk ((C.set (k * 2) X).set (k * 2 + 1) Y) n D S' := by
  have key : ∀ j, nth ((C.set (k * 2) X).set (k * 2 + 1) Y) j = if j = k * 2 + 1 then Y else if j = k * 2 then X else nth C j := fun j => by
    rw [nth_set _ _ _ _ (by rw [List.length_set, h.len]; omega), nth_set _ _ _ _ (by rw [h.len]; omega)]
  refine ⟨by simp [h.len], fun j hj => ?_, fun j hj => ?_⟩
  · rw [key, key]
    by_cases e : j = k
    · subst e; rw [if_neg (by omega), if_pos rfl, if_pos rfl]; exact hr
    · rw [if_neg (show ¬ j * 2 = k * 2 + 1 by omega), if_neg (show ¬ j * 2 = k * 2 by omega), if_neg (show ¬ j * 2 + 1 = k * 2 + 1 by omega), if_neg (show ¬ j * 2 + 1 = k * 2 by omega)]; exact h.rat j hj
  · rw [key, key, hS j hj]
    by_cases e : j = k
    · subst e; rw [if_neg (by omega), if_pos rfl, if_pos rfl, if_pos rfl]; exact hv
    · rw [if_neg (show ¬ j * 2 = k * 2 + 1 by omega), if_neg (show ¬ j * 2 = k * 2 by omega), if_neg (show ¬ j * 2 + 1 = k * 2 + 1 by omega), if_neg (show ¬ j * 2 + 1 = k * 2 by omega), if_neg e]; exact h.val j hj
theorem low_no {p q c D : Int} (hq : 0 < q) (hD : 0 < D) (hD9 : D ≤ 1000000000) (h0 : 0 ≤ c) (hc : c ≤ 1000000000) (h : p * D = c * q) : redQ p q ≤ 1000000000 ∧ -1000000000 ≤ redP p q ∧ redP p q ≤ 1000000000 := by
  have he := red_eq (p := p) (q := q) (r := c) (s := D) hq hD h
  have b1 := redQ_le c D hD
  have b2 := redP_bdB 1000000000 c D (by omega) hD (by omega)
  rw [he.1, he.2]; omega
theorem mul_to {U V a b p q c D : Int} (hb : 0 < b) (hq : 0 < q) (h1 : U * (b * q) = a * p * V) (h2 : a * p * D = c * (b * q)) : U * D = c * V := by
  have hbq : b * q ≠ 0 := Int.ne_of_gt (Int.mul_pos hb hq)
  refine Int.eq_of_mul_eq_mul_right hbq ?_
  calc U * D * (b * q) = U * (b * q) * D := by rw [Int.mul_assoc, Int.mul_comm D, ← Int.mul_assoc]
    _ = a * p * V * D := by rw [h1]
    _ = a * p * D * V := by rw [Int.mul_assoc, Int.mul_comm V, ← Int.mul_assoc]
    _ = c * (b * q) * V := by rw [h2]
    _ = c * V * (b * q) := by rw [Int.mul_assoc, Int.mul_comm (b * q), ← Int.mul_assoc]
theorem add_to {X Y U V S c D : Int} (h3 : X * D = S * Y) (hu : U * D = c * V) : (X * V + U * Y) * D = (S + c) * (Y * V) := by
  calc (X * V + U * Y) * D = X * D * V + U * D * Y := by grind
    _ = S * Y * V + c * V * Y := by rw [h3, hu]
    _ = (S + c) * (Y * V) := by grind
def StepSaid (n : Nat) (D : Int) (c : Nat → Nat → Int) (w : World) (e : Ending) (w' : World) : Prop :=
  ∃ (G : Nat) (C : List Int), e = .returned (.tuple #[.slice (some ⟨G, 0, .none⟩) n n, .int .i64 0]) ∧ RowOk C n D (fun k => sK (fun j => c j k) n) ∧ Fr w w' [colR G C n]
set_option maxRecDepth 100000 in
set_option maxHeartbeats 8000000 in
theorem chaStep_any (R : List Rw) (lz : List Int) (n : Nat) (a b : Option Addr) (ca cb : Nat) (D : Int) (c : Nat → Nat → Int) (w : World) (h : Mx w a R) (hn : R.length = n) (hl : ∀ p ∈ R, p.2.2.length ≤ maxLen) (he : chkC (mOf R) = 0)
    (h' : Sa w b (ints lz)) (hlz : lz.length = n * 2) (hrat : ∀ i, i < n → Rat1 (nth lz (i * 2)) (nth lz (i * 2 + 1)))
    (hD : 0 < D) (hD9 : D ≤ 1000000000) (hc0 : ∀ i k, 0 ≤ c i k) (hc9 : ∀ k, sK (fun j => c j k) n ≤ 1000000000)
    (hc : ∀ i k, i < n → k < n → nth lz (i * 2) * pnK (mOf R) n i k * D = c i k * (nth lz (i * 2 + 1) * pqK (mOf R) n i)) :
    Calls Try.prog 32 #[.slice a n ca, .slice b n cb] w (StepSaid n D c w) := by
  have hok := chkC_ok he
  rw [show (mOf R).length = n by simp [mOf, hn]] at hok
  have n1 := hok.n1
  have n5 := hok.n5
  have hmk := make_rats n (by omega)
  have HS := Lib.hid h; have HN := Lib.hid hn; have HL := Lib.hid hl; have HE := Lib.hid he; have HS' := Lib.hid h'; have HLZ := Lib.hid hlz; have HRT := Lib.hid hrat; have HC := Lib.hid hc; have HK := Lib.hid hok; have HC0 := Lib.hid hc0; have HC9 := Lib.hid hc9; have HD := Lib.hid (And.intro hD hD9)
  have z1 : ((n : Int) != (n : Int)) = false := by simp
  clear h hn hl he h' hlz hrat hc hok hc0 hc9 hD hD9
  go_enter Try.func32, Try.ntmps32
  go_wp2_with fail
  refine (chaChk R n _ _ _ HS.out HN.out HL.out).mono ?_; rintro e w' ⟨rfl, rfl⟩
  rw [HE.out]
  go_wp2_with fail
  clear z1
  go_loopw [32] (fun i wr => ∃ k : Nat, k ≤ n ∧ i = .int .i64 k ∧ Hid (Fr w wr [])) (fun i _ => n - (intOf i).toNat)
  case atStart => exact ⟨0, by omega, rfl, Lib.hid (Fr.start w)⟩
  case round =>
    obtain ⟨k, hk, rfl, HF⟩ := hrel
    by_cases hlt : k < n
    · obtain ⟨b', off, rfl, hb, c0⟩ := (HF.out.old HS'.out).int (k * 2) (by rw [HLZ.out]; omega)
      obtain ⟨_, _, e, _, c1⟩ := (HF.out.old HS'.out).int (k * 2 + 1) (by rw [HLZ.out]; omega)
      cases e
      have hr := HRT.out k hlt
      rw [← Nat.add_assoc] at c1
      obtain ⟨X, hX⟩ : ∃ X, nth lz (k * 2) = X := ⟨_, rfl⟩
      obtain ⟨Y, hY⟩ : ∃ Y, nth lz (k * 2 + 1) = Y := ⟨_, rfl⟩
      rw [hX] at c0 hr
      rw [hY] at c1 hr
      have HR := Lib.hid hr
      have i1 : (0 : Int) ≤ (k : Int) := by omega
      have i2 : (k : Int) < (n : Int) := by omega
      clear hr hX hY hmk
      go_wp2_with fail
      refine (check_ok X Y _ HR.out).mono ?_; rintro e w2 ⟨rfl, hb⟩
      have HF2 := Lib.hid ((HF.out.alloc (.cells #[.int .i64 X, .int .i64 Y] 25)).keep hb)
      clear hb
      go_wp2_with fail
      exact ⟨⟨k + 1, by omega, by simp, HF2⟩, by simp only [intOf]; omega⟩
    · obtain rfl : k = n := by omega
      have HF1 := HF.out.makeRats k (by omega)
      rw [oneQ_zero k] at HF1
      go_wp2_with fail
      clear hmk
      obtain ⟨G, hG⟩ : ∃ G, wr.heap.size = G := ⟨_, rfl⟩
      rw [hG] at HF1 ⊢
      have HF2 := Lib.hid HF1
      clear HF1 hG HF
      go_loopw [47] (fun i wr => ∃ j : Nat, j ≤ k ∧ i = .int .i64 j ∧ Hid (Fr w wr [colR G (oneQ k j) k])) (fun i _ => k - (intOf i).toNat)
      case atStart => exact ⟨0, by omega, rfl, HF2⟩
      case round =>
        clear HF2
        obtain ⟨j, hj, rfl, HF⟩ := hrel
        by_cases hlt2 : j < k
        · obtain ⟨_, e, hg, cj, fj⟩ := HF.out.openI (j * 2 + 1) (by rw [oneQ_len]; omega)
          cases e
          have hf := HF.out.setInt (j * 2 + 1) 1
          rw [oneQ_step k j hlt2] at hf
          have HF3 := Lib.hid hf
          have i1 : (0 : Int) ≤ (j : Int) := by omega
          have i2 : (j : Int) < (k : Int) := by omega
          clear hf
          go_wp2_with fail
          exact ⟨⟨j + 1, by omega, by simp, HF3⟩, by simp only [intOf]; omega⟩
        · obtain rfl : j = k := by omega
          have hro := oneQ_ok j D
          have HRO : Hid (RowOk (oneQ j j) j D (fun k => sK (fun j => c j k) 0)) := Lib.hid hro
          clear hro
          go_wp2_with fail
          go_loopw [57] (fun i wr => ∃ (x : Nat) (C : List Int), x ≤ j ∧ i = .int .i64 x ∧ Hid (RowOk C j D (fun k => sK (fun j => c j k) x)) ∧ Hid (Fr w wr [colR G C j])) (fun i _ => j - (intOf i).toNat)
          case atStart => exact ⟨0, _, by omega, rfl, HRO, HF⟩
          case round =>
            clear HRO HF
            obtain ⟨x, C, hx, rfl, HRO, HF⟩ := hrel
            by_cases hlt3 : x < j
            · obtain ⟨b0, o0, A1, C1, l1, rfl, hb0, hl1, hc1, hs1⟩ := HS.out.at x (by rw [HN.out]; exact hlt3)
              rw [← HF.out.bel.cell (p := ⟨b0, o0 + x, none⟩) hb0] at hc1
              have ll1 : l1.length = j := by rw [hl1]; exact HK.out.row x hlt3
              have hbd : ∀ k, 0 ≤ nth l1 k ∧ nth l1 k ≤ 20 := fun k => by have := HK.out.bd x k; unfold mt at this; rw [← hl1] at this; exact this
              have hmt : ∀ k, nth l1 k = mt (mOf R) x k := fun k => by rw [hl1]; rfl
              have hou : sK (fun k => nth l1 k) j = outA (mOf R) j x := by unfold outA; exact sK_congr j (fun k _ => hmt k)
              have hoN : 0 ≤ outA (mOf R) j x := sK_nonneg _ _ (fun k _ => (HK.out.bd x k).1)
              have ho100 : outA (mOf R) j x ≤ 20 * (j : Int) := sK_le _ 20 j (fun k _ => (HK.out.bd x k).2)
              rw [ll1] at hc1
              have HS1 := Lib.hid hs1; have HLL := Lib.hid ll1; have HBD := Lib.hid hbd; have HMT := Lib.hid hmt; have HOU := Lib.hid hou
              obtain ⟨N, hN⟩ : ∃ N, outA (mOf R) j x = N := ⟨_, rfl⟩
              rw [hN] at hoN ho100 HOU
              have HNN := Lib.hid hN
              have HRO2 : Hid (RowOk C j D (atK c x 0)) := Lib.hid ⟨HRO.out.len, HRO.out.rat, fun k hk => by have := HRO.out.val k hk; unfold atK; rw [if_neg (by omega)]; exact this⟩
              have i1 : (0 : Int) ≤ (x : Int) := by omega
              have i2 : (x : Int) < (j : Int) := by omega
              clear hl1 ll1 hbd hmt hou hs1 hN HRO
              go_wp2_with fail
              refine (chaOut l1 j _ _ _ (HF.out.old HS1.out) HLL.out n5 HBD.out).mono ?_; rintro e w' ⟨rfl, rfl⟩
              rw [HOU.out]
              go_wp2_with fail
              clear hc1
              go_loopw [66] (fun i wr => ∃ (y : Nat) (C : List Int), y ≤ j ∧ i = .int .i64 y ∧ Hid (RowOk C j D (atK c x y)) ∧ Hid (Fr w wr [colR G C j])) (fun i _ => j - (intOf i).toNat)
              case atStart => exact ⟨0, C, by omega, rfl, HRO2, HF⟩
              case round =>
                clear HRO2 HF
                obtain ⟨y, C, hy, rfl, HRO, HF⟩ := hrel
                by_cases hlt4 : y < j
                · obtain ⟨b2, o2, rfl, hb2, cx⟩ := (HF.out.old HS1.out).int y (by rw [HLL.out]; exact hlt4)
                  rw [HMT.out] at cx
                  have hx20 := HK.out.bd x y
                  have hcc := HC.out x y hlt3 hlt4
                  obtain ⟨E, hE⟩ : ∃ E, mt (mOf R) x y = E := ⟨_, rfl⟩
                  rw [hE] at cx hx20
                  obtain ⟨x0, x20⟩ := hx20
                  have hra := HRT.out x hlt3
                  obtain ⟨α, hα⟩ : ∃ α, nth lz (x * 2) = α := ⟨_, rfl⟩
                  obtain ⟨β, hβ⟩ : ∃ β, nth lz (x * 2 + 1) = β := ⟨_, rfl⟩
                  rw [hα, hβ] at hcc hra
                  unfold pnK pqK at hcc
                  rw [HNN.out, hE] at hcc
                  have HRA := Lib.hid hra; have Hα := Lib.hid hα; have Hβ := Lib.hid hβ
                  have j1 : (0 : Int) ≤ (y : Int) := by omega
                  have j2 : (y : Int) < (j : Int) := by omega
                  clear hE hra hα hβ
                  have hcase : (N ≠ 0 ∧ α * E * D = c x y * (β * N)) ∨ (N = 0 ∧ x = y ∧ α * 1 * D = c x y * (β * 1)) ∨ (N = 0 ∧ x ≠ y ∧ α * 0 * D = c x y * (β * 1)) := by
                    by_cases h0 : N = 0
                    · rw [if_pos h0, if_pos h0] at hcc
                      by_cases hxy : x = y
                      · rw [if_pos hxy] at hcc; exact .inr (.inl ⟨h0, hxy, hcc⟩)
                      · rw [if_neg hxy] at hcc; exact .inr (.inr ⟨h0, hxy, hcc⟩)
                    · rw [if_neg h0, if_neg h0] at hcc; exact .inl ⟨h0, hcc⟩
                  clear hcc
                  go_upto_if 75 with (fail)
                  go_cut [17, 66] from 66 to 115 (fun s17 s66 wx => s66 = .int .i64 (y : Int) ∧ ∃ (PB : Nat) (p q : Int), s17 = .pointer (some ⟨PB, 0, none⟩) ∧ 0 ≤ p ∧ p ≤ 20 ∧ 0 < q ∧ q ≤ 100 ∧ Hid (α * p * D = c x y * (β * q)) ∧ Hid (Fr w wx [eR PB p q, colR G C j]))
                  case first =>
                    rcases hcase with ⟨hN0, h2⟩ | ⟨hN0, hxy, h2⟩ | ⟨hN0, hxy, h2⟩
                    · have g1 : (N == 0) = false := beq_eq_false_iff_ne.2 hN0
                      have hNp : 0 < N := by omega
                      have hN9 : N ≤ 100 := by omega
                      have HFP := Lib.hid (HF.out.rat E N)
                      have H2 := Lib.hid h2
                      clear h2 hN0
                      go_wp2_with fail
                      go_meet
                      exact ⟨rfl, _, E, N, rfl, x0, x20, hNp, hN9, H2, HFP⟩
                    · have g1 : (N == 0) = true := beq_iff_eq.2 hN0
                      have g2 : ((x : Int) == (y : Int)) = true := beq_iff_eq.2 (by omega)
                      have HFP := Lib.hid (HF.out.rat 1 1)
                      have H2 := Lib.hid h2
                      clear h2 hN0 hxy
                      go_wp2_with fail
                      go_meet
                      exact ⟨rfl, _, 1, 1, rfl, by omega, by omega, by omega, by omega, H2, HFP⟩
                    · have g1 : (N == 0) = true := beq_iff_eq.2 hN0
                      have g2 : ((x : Int) == (y : Int)) = false := beq_eq_false_iff_ne.2 (by omega)
                      have HFP := Lib.hid (HF.out.rat 0 1)
                      have H2 := Lib.hid h2
                      clear h2 hN0 hxy
                      go_wp2_with fail
                      go_meet
                      exact ⟨rfl, _, 0, 1, rfl, by omega, by omega, by omega, by omega, H2, HFP⟩
                  case rest =>
                    obtain ⟨rfl, PB, p, q, rfl, p0, p20, q0, q100, H2, HFP⟩ := hcut
                    clear hcase
                    obtain ⟨X', Y', hRR⟩ : ∃ X Y, RedIs p q X Y := ⟨_, _, rfl, rfl⟩
                    have hR1 := red_rat p q ⟨by omega, by omega⟩ ⟨q0, by omega⟩
                    have hcr := red_cross p q
                    rw [hRR.1, hRR.2] at hR1 hcr
                    have HH2 := Lib.hid (part_red q0 hcr H2.out)
                    have HRR := Lib.hid hRR; have HR1 := Lib.hid hR1
                    obtain ⟨d0, d1, dl, _, e0, e1⟩ := HFP.out.ratAt 0 rfl
                    clear hRR hR1 hcr
                    go_wp2_with fail
                    refine (make_fits p q X' Y' _ (by omega) (by omega) HRR.out).mono ?_; rintro e w5 ⟨rfl, hb⟩
                    have F5 := HFP.out.keep hb
                    obtain ⟨d0, d1, dl, _, e0, e1⟩ := F5.ratAt 0 rfl
                    have HF6 := Lib.hid (F5.ratPut X' Y')
                    clear F5 hb HFP
                    go_wp2_with fail
                    obtain ⟨w6, hw6⟩ : ∃ w6, (w5.setCell ⟨PB, 0, none⟩ (.int .i64 X')).setCell ⟨PB, 1, none⟩ (.int .i64 Y') = w6 := ⟨_, rfl⟩
                    rw [hw6] at HF6 ⊢
                    clear hw6 d0 d1 dl e0 e1
                    obtain ⟨p0', p1', pl, _, -, -⟩ := HF6.out.ratAt 0 rfl
                    obtain ⟨b3, o3, rfl, hb3, l0⟩ := (HF6.out.old HS'.out).int (x * 2) (by rw [HLZ.out]; omega)
                    obtain ⟨_, _, e, _, l1'⟩ := (HF6.out.old HS'.out).int (x * 2 + 1) (by rw [HLZ.out]; omega)
                    cases e
                    rw [Hα.out] at l0
                    rw [Hβ.out, ← Nat.add_assoc] at l1'
                    go_cut [18, 19, 66] from 66 to 115 (fun s18 s19 s66 wx => s66 = .int .i64 (y : Int) ∧ ∃ (YB : Nat) (U V er : Int), s18 = .pointer (some ⟨YB, 0, none⟩) ∧ s19 = .int .i64 er ∧ Hid (er = 0 ∧ Rat1 U V ∧ U * (β * Y') = α * X' * V) ∧ Hid (Fr w wx [eR YB U V, eR PB X' Y', colR G C j]))
                    case first =>
                      go_region_with (go_at_call 20; refine (mul_any α β X' Y' _ HRA.out HR1.out).mono ?_; rintro e w7 ⟨U, V, er, rfl, hx, hb⟩; have HXX := Lib.hid hx; have HBB := Lib.hid hb; obtain ⟨hbc, hbf⟩ := bcell hb; clear hx hb)
                      all_goals
                        clear p0' p1' pl hb3 l0 l1' hbc hbf
                        have HYY : Hid (er = 0 ∧ Rat1 U V ∧ U * (β * Y') = α * X' * V) := Lib.hid (by
                          rcases HXX.out with ⟨h1, h2, h3, -⟩ | ⟨-, -, -, h1⟩
                          · exact ⟨h1, h2, h3⟩
                          · have hle := sK_mono (fun j => c j y) (x + 1) j (fun k _ => HC0.out k y) (by omega)
                            have hnn := sK_nonneg (fun j => c j y) x (fun k _ => HC0.out k y)
                            rw [sK] at hle
                            have := HC9.out y
                            exact absurd (low_no (Int.mul_pos (by have := HRA.out.1; omega) (by have := HR1.out.1; omega)) HD.out.1 HD.out.2 (HC0.out x y) (by omega) HH2.out) h1)
                        go_wp2_with fail
                        go_meet
                        first
                          | exact ⟨rfl, _, U, V, er, rfl, rfl, HYY, Lib.hid ((HF6.out.drew.keep HBB.out).rat U V)⟩
                          | exact ⟨rfl, _, U, V, er, rfl, rfl, HYY, Lib.hid (((HF6.out.rat 0 0).drew.keep HBB.out).ratPut U V)⟩
                    case rest =>
                      obtain ⟨rfl, YB, U, V, er, rfl, rfl, HYY, HF8⟩ := hcut
                      clear p0' p1' pl hb3 l0 l1' HF6
                      obtain ⟨rfl, hr7, hv7⟩ := HYY.out
                      have HR7 := Lib.hid hr7
                      have hV1 := hr7.1
                      have HV7 := Lib.hid hv7
                      clear hr7 hv7
                      have hry := HRO.out.rat y hlt4
                      have hvy := HRO.out.val y hlt4
                      have hCl := HRO.out.len
                      obtain ⟨y0, y1, yl, _, -, -⟩ := HF8.out.ratAt 0 rfl
                      have hfT := (HF8.out.perm (M := [colR G C j, eR YB U V, eR PB X' Y']) (by
                        refine List.Perm.trans (List.Perm.cons _ (List.Perm.swap _ _ _)) ?_
                        exact List.Perm.swap _ _ _))
                      obtain ⟨_, e, -, hGl, -, -⟩ := hfT.open (by rw [ints_len, hCl]; omega)
                      cases e
                      obtain ⟨_, e, hg0, t0, tf0⟩ := hfT.openI (y * 2) (by rw [hCl]; omega)
                      cases e
                      obtain ⟨_, e, hg1, t1, tf1⟩ := hfT.openI (y * 2 + 1) (by rw [hCl]; omega)
                      cases e
                      obtain ⟨S0, hS0⟩ : ∃ S0, nth C (y * 2) = S0 := ⟨_, rfl⟩
                      obtain ⟨S1, hS1⟩ : ∃ S1, nth C (y * 2 + 1) = S1 := ⟨_, rfl⟩
                      rw [hS0, hS1] at hry hvy
                      rw [hS0] at t0
                      rw [hS1] at t1
                      have HRY := Lib.hid hry; have HVY := Lib.hid hvy; have HFT := Lib.hid hfT
                      have hS1p := hry.1
                      clear hS0 hS1 hry hvy hCl hfT HF8
                      go_wp2_with fail
                      go_cut [19, 66] from 66 to 115 (fun s19 s66 wx => s66 = .int .i64 (y : Int) ∧ ∃ (er : Int) (C' : List Int), s19 = .int .i64 er ∧ Hid (er = 0 ∧ RowOk C' j D (atK c x (y + 1))) ∧ Hid (Fr w wx [colR G C' j]))
                      case first =>
                        go_region_with (go_at_call 21; refine (add_any S0 S1 U V _ HRY.out HR7.out).mono ?_; rintro e w8 ⟨X2, Y2, er, rfl, hx, hb⟩; have HXX := Lib.hid hx; have HBB := Lib.hid hb; have s0 := keep_cell hb t0 hGl; have s1 := keep_cell hb t1 hGl; have s2 := keep_thaw hb tf0 hGl; have s3 := keep_thaw hb tf1 hGl; clear hx hb)
                        all_goals
                          clear y0 y1 yl t0 t1 tf0 tf1 s0 s1 s2 s3
                          have HZZ : Hid (er = 0 ∧ RowOk ((C.set (y * 2) X2).set (y * 2 + 1) Y2) j D (atK c x (y + 1))) := Lib.hid (by
                            have hβ := HRA.out.1
                            have hY' := HR1.out.1
                            rcases HXX.out with ⟨h1, h2, h3, -⟩ | ⟨-, -, -, h1⟩
                            · refine ⟨h1, HRO.out.put y hlt4 X2 Y2 (atK c x y y + c x y) h2 (rat_step (by omega) (by omega) (by omega) (by omega) HV7.out HH2.out HVY.out h3) _ (fun k hk => ?_)⟩
                              unfold atK
                              by_cases e : k = y
                              · subst e; rw [if_pos (by omega), if_pos rfl, if_neg (by omega)]; rfl
                              · rw [if_neg e]
                                by_cases e2 : k < y
                                · rw [if_pos (by omega), if_pos e2]
                                · rw [if_neg (by omega), if_neg e2]
                            · have hle := sK_mono (fun j => c j y) (x + 1) j (fun k _ => HC0.out k y) (by omega)
                              have hnn := sK_nonneg (fun j => c j y) x (fun k _ => HC0.out k y)
                              rw [sK] at hle
                              have h9 := HC9.out y
                              have h0 := HC0.out x y
                              have hat : atK c x y y = sK (fun j => c j y) x := by unfold atK; rw [if_neg (by omega)]
                              exact absurd (low_no (Int.mul_pos (by omega) (by omega)) HD.out.1 HD.out.2 (by rw [hat]; omega) (by rw [hat]; omega) (add_to HVY.out (mul_to (by omega) (by omega) HV7.out HH2.out))) h1)
                          have hF9 := ((HFT.out.drew.keep HBB.out).setInt (y * 2) X2).setInt (y * 2 + 1) Y2
                          have HF9 : Hid (Fr w _ [colR G ((C.set (y * 2) X2).set (y * 2 + 1) Y2) j]) := Lib.hid (hF9.sub (by simp [colR]))
                          clear hF9
                          go_wp2_with fail
                          go_meet
                          exact ⟨rfl, er, _, rfl, HZZ, HF9⟩
                      case rest =>
                        obtain ⟨rfl, er, C', rfl, HZZ, HF9⟩ := hcut
                        clear y0 y1 yl t0 t1 tf0 tf1 HFT
                        obtain ⟨rfl, hro⟩ := HZZ.out
                        have HRN := Lib.hid hro
                        clear hro
                        go_wp2_with fail
                        go_roundw
                        case rel => first | exact ⟨y + 1, C', by omega, by simp, HRN, HF9⟩ | ((repeat apply Exists.intro); exact ⟨⟨y + 1, C', by omega, by simp, HRN, HF9⟩, rfl⟩)
                        case measure => simp only [intOf]; omega
                · obtain rfl : y = j := by omega
                  have HRO3 : Hid (RowOk C y D (fun k => sK (fun j => c j k) (x + 1))) := Lib.hid ⟨HRO.out.len, HRO.out.rat, fun k hk => by have := HRO.out.val k hk; unfold atK at this; rwa [if_pos hk] at this⟩
                  go_wp2_with fail
                  exact ⟨⟨x + 1, C, by omega, by simp, HRO3, HF⟩, by simp only [intOf]; omega⟩
            · obtain rfl : x = j := by omega
              go_wp2_with fail
              go_ret2
              exact ⟨G, C, rfl, HRO.out, HF.out⟩
end Go.Proofs.Ytghobphnjfgjeaa
