/- Contracts of event.Chance, Given, Apart. -/
import Derived.Test.YtliajiilcicppaaEvt
import Derived.Test.YtliajiilcicppaaEvt2
namespace Go.Proofs.Ytliajiilcicppaa
open Go.RowKit

theorem hws1 (w : World) (x : Nat) (T : TypeId) : Sa (w.alloc (.cells #[.int .u16 (x : Int)] T)) (some ⟨w.heap.size, 0, none⟩) (hws [x]) := by
  intro _
  refine ⟨w.heap.size, 0, rfl, by simp, fun i hi => ?_⟩
  rw [cell_new]
  simp [hws] at hi
  subst hi; rfl
theorem hws2 (w : World) (x y : Nat) (T : TypeId) : Sa (w.alloc (.cells #[.int .u16 (x : Int), .int .u16 (y : Int)] T)) (some ⟨w.heap.size, 0, none⟩) (hws [x, y]) := by
  intro _
  refine ⟨w.heap.size, 0, rfl, by simp, fun i hi => ?_⟩
  rw [cell_new]
  match i, hi with
  | 0, _ => rfl
  | 1, _ => rfl

theorem all16 : ∀ n : Nat, n ≤ 12 → IntKind.u16.wrap (IntKind.u16.wrap (2 ^ n) - 1) = ((2 ^ n - 1 : Nat) : Int) ∧ 2 ^ n - 1 < 65536 := by decide
/-- a struct of two ints in a new block, then a block of any kind, behind a callee that leaves them alone -/
theorem res2D {w w1 : World} {a b : Value} {T : TypeId} {o : Obj} {m : Nat} (hb : Below ((((w.alloc (.cells #[a, b] T)).alloc o)).drewN m).heap.size ((((w.alloc (.cells #[a, b] T)).alloc o)).drewN m) w1) :
    w1.cell? ⟨w.heap.size, 0, none⟩ = some a ∧ w1.cell? ⟨w.heap.size, 1, none⟩ = some b ∧ w1.frozen? ⟨w.heap.size, 0, none⟩ = false ∧ w1.frozen? ⟨w.heap.size, 1, none⟩ = false ∧ w.heap.size + 1 < w1.heap.size ∧ Below w.heap.size w w1 := by
  have hb' : Below ((w.alloc (.cells #[a, b] T)).alloc o).heap.size ((w.alloc (.cells #[a, b] T)).alloc o) w1 := ⟨hb.os, hb.tape, hb.output, hb.size, hb.block⟩
  have hc : ∀ i, (w.alloc (.cells #[a, b] T)).cell? ⟨w.heap.size, 0 + i, none⟩ = #[a, b][i]? := fun i => cell_new _ _ _ i
  refine ⟨keep_cell hb' ?_ (by simp; omega), keep_cell hb' ?_ (by simp; omega), keep_thaw hb' ?_ (by simp; omega), keep_thaw hb' ?_ (by simp; omega), ?_, kin_trans (kin_alloc (kin_alloc (Below.refl _ _) _) _) hb'⟩
  · go_simp
  · go_simp
  · go_simp
  · go_simp
  · have := hb'.size; simp at this; omega

set_option maxRecDepth 100000 in
set_option maxHeartbeats 1000000 in
theorem evChance (l : List Int) (n : Nat) (a : Option Addr) (ca : Nat) (s : Nat) (w : World) (h : Sa w a (ints l)) (hn : l.length = n) (hs : s < 65536) (X Y : Int) (he : chkE l [s] = 0) (hr : RedIs (wtL l s) (isum l) X Y) :
    Calls Try.prog 25 #[.slice a n ca, .int .u16 s] w fun e w' => e = .returned (.tuple #[.agg #[.int .i64 X, .int .i64 Y], .int .i64 0]) ∧ Below w.heap.size w w' := by
  obtain ⟨n1, n12, hp, hs2⟩ := chkE_ok he
  rw [hn] at n1 n12
  have HN := Lib.hid hn; have HS := Lib.hid h; have HP := Lib.hid hp; have HE := Lib.hid he; have HR := Lib.hid hr
  have H16 := Lib.hid (show ∀ x ∈ [s], x < 65536 from fun x hx => by rw [List.mem_singleton] at hx; rw [hx]; exact hs)
  clear hn h hp he hr hs2
  go_enter Try.func25, Try.ntmps25
  go_wp2_with fail
  refine (evChk l [s] n 1 _ _ _ _ _ ((HS.out.alloc _).alloc _) (by have := hws1 (w.alloc (.cells #[.int .i64 0, .int .i64 0] 23)) s 37; simpa using this) HN.out rfl H16.out (by omega)).mono ?_; rintro e w' ⟨rfl, rfl⟩
  rw [HE.out]
  go_wp2_with fail
  have HSD := Lib.hid ((((HS.out.alloc (.cells #[.int .i64 0, .int .i64 0] 23)).alloc (.cells #[.int .u16 (s : Int)] 37))).drewN 1)
  obtain ⟨a16, a16'⟩ := all16 n n12
  have A16 := Lib.hid a16
  have HALL : Hid (wtL l (2 ^ n - 1) = isum l) := Lib.hid (by rw [← HN.out]; exact wtL_all l)
  obtain ⟨v1, v2⟩ := wtL_bd l s HP.out
  obtain ⟨v3, v4⟩ := isum_bdP l HP.out (by rw [HN.out]; omega)
  rw [HN.out] at v2 v4
  clear a16
  go_region_with (first
    | (go_at_call_of 41 (Value.int .u16 (s : Int)); refine (evWeight l n _ _ s _ HSD.out HN.out n12 HP.out hs).mono ?_; rintro e w' ⟨rfl, rfl⟩)
    | (go_at_call 41; rw [A16.out]; refine (evWeight l n _ _ (2 ^ n - 1) _ HSD.out HN.out n12 HP.out a16').mono ?_; rintro e w' ⟨rfl, rfl⟩)
    | (go_at_call 19; rw [HALL.out]; refine (make_fits _ _ X Y _ (by omega) (by omega) HR.out).mono ?_; rintro e w2 ⟨rfl, hb⟩; obtain ⟨c0, c1, f0, f1, hz, hk⟩ := res2D hb))
  all_goals
    have HK := Lib.hid hk
    clear hb hk
    go_wp2_with fail
    exact bodyPost_ret (v := .tuple #[.agg #[.int .i64 X, .int .i64 Y], .int .i64 0]) (by simp [results, Try.results25, go_sem, c0, c1]) rfl
      ⟨rfl, (HK.out.setCell (Nat.le_refl _) _).setCell (Nat.le_refl _) _⟩

set_option maxRecDepth 100000 in
set_option maxHeartbeats 1000000 in
theorem evChance_no (l : List Int) (n : Nat) (a : Option Addr) (ca : Nat) (s : Nat) (w : World) (h : Sa w a (ints l)) (hn : l.length = n) (hs : s < 65536) (er : Int) (he : chkE l [s] = er) (h0 : er ≠ 0) :
    Calls Try.prog 25 #[.slice a n ca, .int .u16 s] w fun e w' => e = .returned (.tuple #[.agg #[.int .i64 0, .int .i64 0], .int .i64 er]) ∧ Below w.heap.size w w' := by
  have HN := Lib.hid hn; have HS := Lib.hid h; have HE := Lib.hid he
  have H16 := Lib.hid (show ∀ x ∈ [s], x < 65536 from fun x hx => by rw [List.mem_singleton] at hx; rw [hx]; exact hs)
  have z : (er != 0) = true := by rw [bne_iff_ne]; exact h0
  clear hn h he h0
  go_enter Try.func25, Try.ntmps25
  go_wp2_with fail
  refine (evChk l [s] n 1 _ _ _ _ _ ((HS.out.alloc _).alloc _) (by have := hws1 (w.alloc (.cells #[.int .i64 0, .int .i64 0] 23)) s 37; simpa using this) HN.out rfl H16.out (by omega)).mono ?_; rintro e w' ⟨rfl, rfl⟩
  rw [HE.out]
  go_wp2_with fail
  exact bodyPost_ret (v := .tuple #[.agg #[.int .i64 0, .int .i64 0], .int .i64 er]) (by simp [results, Try.results25, go_sem]) rfl
    ⟨rfl, kin_alloc (kin_alloc (Below.refl _ _) _) _⟩

set_option maxRecDepth 100000 in
set_option maxHeartbeats 1000000 in
theorem evGiven_no (l : List Int) (n : Nat) (a : Option Addr) (ca : Nat) (s t : Nat) (w : World) (h : Sa w a (ints l)) (hn : l.length = n) (hs : s < 65536) (ht : t < 65536) (er : Int) (he : chkE l [s, t] = er) (h0 : er ≠ 0) :
    Calls Try.prog 26 #[.slice a n ca, .int .u16 s, .int .u16 t] w fun e w' => e = .returned (.tuple #[.agg #[.int .i64 0, .int .i64 0], .int .i64 er]) ∧ Below w.heap.size w w' := by
  have HN := Lib.hid hn; have HS := Lib.hid h; have HE := Lib.hid he
  have H16 := Lib.hid (show ∀ x ∈ [s, t], x < 65536 from fun x hx => by simp at hx; omega)
  have z : (er != 0) = true := by rw [bne_iff_ne]; exact h0
  clear hn h he h0
  go_enter Try.func26, Try.ntmps26
  go_wp2_with fail
  refine (evChk l [s, t] n 2 _ _ _ _ _ ((HS.out.alloc _).alloc _) (by have := hws2 (w.alloc (.cells #[.int .i64 0, .int .i64 0] 23)) s t 37; simpa using this) HN.out rfl H16.out (by omega)).mono ?_; rintro e w' ⟨rfl, rfl⟩
  rw [HE.out]
  go_wp2_with fail
  exact bodyPost_ret (v := .tuple #[.agg #[.int .i64 0, .int .i64 0], .int .i64 er]) (by simp [results, Try.results26, go_sem]) rfl
    ⟨rfl, kin_alloc (kin_alloc (Below.refl _ _) _) _⟩

set_option maxRecDepth 100000 in
set_option maxHeartbeats 1000000 in
theorem evGiven_zero (l : List Int) (n : Nat) (a : Option Addr) (ca : Nat) (s : Nat) (w : World) (h : Sa w a (ints l)) (hn : l.length = n) (hs : s < 65536) (he : chkE l [s, 0] = 0) :
    Calls Try.prog 26 #[.slice a n ca, .int .u16 s, .int .u16 0] w fun e w' => e = .returned (.tuple #[.agg #[.int .i64 0, .int .i64 0], .int .i64 5]) ∧ Below w.heap.size w w' := by
  have HN := Lib.hid hn; have HS := Lib.hid h; have HE := Lib.hid he
  have H16 := Lib.hid (show ∀ x ∈ [s, 0], x < 65536 from fun x hx => by simp at hx; omega)
  clear hn h he
  go_enter Try.func26, Try.ntmps26
  go_wp2_with fail
  refine (evChk l [s, 0] n 2 _ _ _ _ _ ((HS.out.alloc _).alloc _) (by have := hws2 (w.alloc (.cells #[.int .i64 0, .int .i64 0] 23)) s 0 37; simpa using this) HN.out rfl H16.out (by omega)).mono ?_; rintro e w' ⟨rfl, rfl⟩
  rw [HE.out]
  go_wp2_with fail
  exact bodyPost_ret (v := .tuple #[.agg #[.int .i64 0, .int .i64 0], .int .i64 5]) (by simp [results, Try.results26, go_sem]) rfl
    ⟨rfl, kin_alloc (kin_alloc (Below.refl _ _) _) _⟩

set_option maxRecDepth 100000 in
set_option maxHeartbeats 1000000 in
theorem evGiven (l : List Int) (n : Nat) (a : Option Addr) (ca : Nat) (s t : Nat) (w : World) (h : Sa w a (ints l)) (hn : l.length = n) (hs : s < 65536) (ht : t < 65536) (h0 : 0 < t) (X Y : Int) (he : chkE l [s, t] = 0) (hr : RedIs (wtL l (s &&& t)) (wtL l t) X Y) :
    Calls Try.prog 26 #[.slice a n ca, .int .u16 s, .int .u16 t] w fun e w' => e = .returned (.tuple #[.agg #[.int .i64 X, .int .i64 Y], .int .i64 0]) ∧ Below w.heap.size w w' := by
  obtain ⟨n1, n12, hp, hs2⟩ := chkE_ok he
  have wp := wtL_pos l t hp h0 (hs2 t (by simp))
  rw [hn] at n1 n12
  have HN := Lib.hid hn; have HS := Lib.hid h; have HP := Lib.hid hp; have HE := Lib.hid he; have HR := Lib.hid hr
  have H16 := Lib.hid (show ∀ x ∈ [s, t], x < 65536 from fun x hx => by simp at hx; omega)
  have AND := Lib.hid (u16_and_nat s t hs ht)
  have st16 : s &&& t < 65536 := Nat.lt_of_le_of_lt Nat.and_le_left hs
  have HS2 := Lib.hid ((HS.out.alloc (.cells #[.int .i64 0, .int .i64 0] 23)).alloc (.cells #[.int .u16 (s : Int), .int .u16 (t : Int)] 37))
  obtain ⟨v1, v2⟩ := wtL_bd l (s &&& t) hp
  obtain ⟨v3, v4⟩ := wtL_bd l t hp
  rw [hn] at v2 v4
  have z : ((t : Int) == 0) = false := by rw [beq_eq_false_iff_ne]; omega
  clear hn h hp he hr hs2
  go_enter Try.func26, Try.ntmps26
  go_wp2_with fail
  refine (evChk l [s, t] n 2 _ _ _ _ _ HS2.out (by have := hws2 (w.alloc (.cells #[.int .i64 0, .int .i64 0] 23)) s t 37; simpa using this) HN.out rfl H16.out (by omega)).mono ?_; rintro e w' ⟨rfl, rfl⟩
  rw [HE.out]
  go_wp2_with fail
  rw [AND.out]
  refine (evWeight l n _ _ (s &&& t) _ HS2.out HN.out n12 HP.out st16).mono ?_; rintro e w' ⟨rfl, rfl⟩
  go_wp2_with fail
  refine (evWeight l n _ _ t _ HS2.out HN.out n12 HP.out ht).mono ?_; rintro e w' ⟨rfl, rfl⟩
  go_wp2_with fail
  refine (make_fits _ _ X Y _ (by omega) (by omega) HR.out).mono ?_; rintro e w2 ⟨rfl, hb⟩
  obtain ⟨c0, c1, f0, f1, hz, hk⟩ := res2D (m := 0) hb
  have HK := Lib.hid hk
  clear hb hk
  go_wp2_with fail
  exact bodyPost_ret (v := .tuple #[.agg #[.int .i64 X, .int .i64 Y], .int .i64 0]) (by simp [results, Try.results26, go_sem, c0, c1]) rfl
    ⟨rfl, (HK.out.setCell (Nat.le_refl _) _).setCell (Nat.le_refl _) _⟩
end Go.Proofs.Ytliajiilcicppaa
