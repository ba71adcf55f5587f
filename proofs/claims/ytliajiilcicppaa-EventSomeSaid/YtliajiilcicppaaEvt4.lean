/- Contract of event.Apart; several ratios in blocks of their own. -/
import Derived.Test.YtliajiilcicppaaEvt3
import Derived.Test.YtliajiilcicppaaGood
namespace Go.Proofs.Ytliajiilcicppaa
open Go.RowKit

theorem below_drewN' {w0 w : World} {b : Nat} (h : Below b w0 w) (n : Nat) : Below b w0 (w.drewN n) := ⟨h.os, h.tape, h.output, h.size, h.block⟩
set_option maxRecDepth 100000 in
set_option maxHeartbeats 2000000 in
theorem evApart (l : List Int) (n : Nat) (a : Option Addr) (ca : Nat) (s t : Nat) (w : World) (h : Sa w a (ints l)) (hn : l.length = n) (hs : s < 65536) (ht : t < 65536) (he : chkE l [s, t] = 0) :
    Calls Try.prog 23 #[.slice a n ca, .int .u16 s, .int .u16 t] w fun e w' => e = .returned (.tuple #[.bool (wtL l (s &&& t) * isum l == wtL l s * wtL l t), .int .i64 0]) ∧ Below w.heap.size w w' := by
  obtain ⟨n1, n12, hp, hs2⟩ := chkE_ok he
  rw [hn] at n1 n12
  have HN := Lib.hid hn; have HS := Lib.hid h; have HP := Lib.hid hp; have HE := Lib.hid he
  have H16 := Lib.hid (show ∀ x ∈ [s, t], x < 65536 from fun x hx => by simp at hx; omega)
  have AND := Lib.hid (u16_and_nat s t hs ht)
  have st16 : s &&& t < 65536 := Nat.lt_of_le_of_lt Nat.and_le_left hs
  have HSD := Lib.hid (fun N => (HS.out.alloc (.cells #[.int .u16 (s : Int), .int .u16 (t : Int)] 37)).drewN N)
  obtain ⟨a16, a16'⟩ := all16 n n12
  have A16 := Lib.hid a16
  have HALL : Hid (wtL l (2 ^ n - 1) = isum l) := Lib.hid (by rw [← HN.out]; exact wtL_all l)
  have b1 := wtL_bd l (s &&& t) hp
  have b2 := wtL_bd l s hp
  have b3 := wtL_bd l t hp
  have b4 := isum_bdP l hp (by omega)
  rw [hn] at b1 b2 b3 b4
  have m1 := mul_bd (wtL l (s &&& t)) (isum l) 1200 1200 (by omega) (by omega)
  have m2 := mul_bd (wtL l s) (wtL l t) 1200 1200 (by omega) (by omega)
  obtain ⟨q1, P1⟩ : ∃ q, wtL l (s &&& t) * isum l = q := ⟨_, rfl⟩
  obtain ⟨q2, P2⟩ : ∃ q, wtL l s * wtL l t = q := ⟨_, rfl⟩
  have HP1 := Lib.hid P1; have HP2 := Lib.hid P2
  rw [P1] at m1
  rw [P2] at m2
  obtain ⟨m11, m12⟩ := m1
  obtain ⟨m21, m22⟩ := m2
  clear hn h hp he hs2 a16
  go_enter Try.func23, Try.ntmps23
  go_wp2_with fail
  refine (evChk l [s, t] n 2 _ _ _ _ _ (HS.out.alloc _) (hws2 w s t 37) HN.out rfl H16.out (by omega)).mono ?_; rintro e w' ⟨rfl, rfl⟩
  rw [HE.out]
  go_wp2_with fail
  go_quiet (first
    | (go_at_call_of 41 (Value.int .u16 (s : Int)); exact quiet_eq (evWeight l n _ _ s _ (HSD.out _) HN.out n12 HP.out hs))
    | (go_at_call_of 41 (Value.int .u16 (t : Int)); exact quiet_eq (evWeight l n _ _ t _ (HSD.out _) HN.out n12 HP.out ht))
    | (go_at_call 41; rw [A16.out]; exact quiet_eq ((evWeight l n _ _ (2 ^ n - 1) _ (HSD.out _) HN.out n12 HP.out a16').mono fun _ _ ⟨a, b⟩ => ⟨by rw [a, HALL.out], b⟩))
    | (go_at_call 41; rw [AND.out]; exact quiet_eq (evWeight l n _ _ (s &&& t) _ (HSD.out _) HN.out n12 HP.out st16)))
  go_wp2_with fail
  go_ret2
  exact ⟨by rw [HP1.out, HP2.out]; rfl, below_drewN' (kin_alloc (Below.refl _ _) _) _⟩

/-! ratios in blocks of their own -/
/-- since w0 nothing old has turned, and these blocks hold these ratios -/
structure Rf (w0 w : World) (L : List (Nat × Int × Int)) : Prop where
  bel : Below w0.heap.size w0 w
  st : ∀ e ∈ L, St w e.1 23 e.2.1 e.2.2
theorem Rf.start (w : World) : Rf w w [] := ⟨Below.refl _ _, by simp⟩
theorem Rf.keep {w0 w w' : World} {L : List (Nat × Int × Int)} (h : Rf w0 w L) (b : Below w.heap.size w w') : Rf w0 w' L := ⟨kin_trans h.bel b, fun e he => (h.st e he).keep b⟩
theorem Rf.alloc {w0 w : World} {L : List (Nat × Int × Int)} (h : Rf w0 w L) (o : Obj) : Rf w0 (w.alloc o) L := h.keep (kin_alloc (Below.refl _ _) o)
theorem Rf.push {w0 w : World} {L : List (Nat × Int × Int)} (h : Rf w0 w L) (X Y : Int) : Rf w0 (w.alloc (.cells #[.int .i64 X, .int .i64 Y] 23)) ((w.heap.size, X, Y) :: L) :=
  ⟨(h.alloc _).bel, fun e he => by
    rcases List.mem_cons.1 he with rfl | he
    · exact St.new w 23 X Y
    · exact (h.alloc _).st e he⟩
theorem Rf.get {w0 w : World} {L : List (Nat × Int × Int)} (h : Rf w0 w L) (i : Nat) {B : Nat} {X Y : Int} (he : L[i]? = some (B, X, Y)) :
    w.cell? ⟨B, 0, none⟩ = some (.int .i64 X) ∧ w.cell? ⟨B, 1, none⟩ = some (.int .i64 Y) ∧ B < w.heap.size := by
  have := h.st _ (List.mem_of_getElem? he)
  exact ⟨this.c0, this.c1, this.lt⟩
theorem Rf.old {w0 w : World} {L : List (Nat × Int × Int)} {a : Option Addr} {xs : List Value} (h : Rf w0 w L) (hs : Sa w0 a xs) : Sa w a xs := hs.keep h.bel

set_option maxRecDepth 100000 in
set_option maxHeartbeats 2000000 in
/-- events of three -/
theorem events_any (w : World) : Calls Try.prog 24 #[] w fun e w' => e = .returned (.bool true) ∧ Below w.heap.size w w' := by
  have r1 : RedIs (wtL [1, 2, 3] 5) (isum [1, 2, 3]) 2 3 := by unfold RedIs; decide
  have r2 : RedIs (wtL [1, 2, 3] (4 &&& 6)) (wtL [1, 2, 3] 6) 3 5 := by unfold RedIs; decide
  have HR1 := Lib.hid r1; have HR2 := Lib.hid r2; clear r1 r2
  go_enter Try.func24, Try.ntmps24
  go_wp2_with fail
  have F1 := (Fr.start w).lit [1, 2, 3] #[.int .i64 1, .int .i64 2, .int .i64 3] rfl 3 rfl (by omega) 3
  refine (evChance [1, 2, 3] 3 _ _ 5 _ (F1.get 0 rfl) rfl (by omega) 2 3 (by decide) HR1.out).mono ?_; rintro e w1 ⟨rfl, hb⟩
  have R1 := ((Rf.start w).keep F1.bel).keep hb
  clear F1 hb
  go_wp2_with fail
  have R2 := R1.push 2 3
  have F2 := (Fr.start (w1.alloc (.cells #[.int .i64 2, .int .i64 3] 23))).lit' [1, 2, 3] #[.int .i64 1, .int .i64 2, .int .i64 3] rfl 3 rfl (by omega) 3 _ (by simp; rfl)
  refine (evGiven [1, 2, 3] 3 _ _ 4 6 _ (F2.get 0 rfl) rfl (by omega) (by omega) (by omega) 3 5 (by decide) HR2.out).mono ?_; rintro e w2 ⟨rfl, hb⟩
  have R3 := ((R2.keep F2.bel).keep hb)
  clear R1 R2 F2 hb
  go_wp2_with fail
  refine (good2b _ (w2.heap.size + 1) _ (by simp)).mono ?_; rintro e w' ⟨rfl, rfl⟩
  have R4 := (R3.push 3 5).alloc (.cells #[.int .i64 0, .int .i64 0] 24)
  obtain ⟨c0, c1, cz⟩ := R4.get 0 rfl
  obtain ⟨d0, d1, dz⟩ := R4.get 1 rfl
  go_wp2_with fail
  go_ret
  exact ⟨rfl, R4.bel⟩

/-- good, whatever the errors -/
theorem good_list (vs : List Int) (w : World) (b : Nat) (T : TypeId) (hb : w.heap.size = b) (cs : Array Value) (hcs : cs.toList = ints vs) (n : Nat) (hn : vs.length = n) (hl : n ≤ 1000) :
    Calls Try.prog 17 #[.slice (some ⟨b, 0, none⟩) n n] (w.alloc (.cells cs T)) fun e w' => e = .returned (.bool (vs.all (· == 0))) ∧ w.alloc (.cells cs T) = w' := by
  subst hb
  refine (good_said (fun i => nth vs i) n w.heap.size 0 n _ (by omega) (fun i hi => ?_)).mono fun e w' ⟨r, h1, h2, h3⟩ => ⟨?_, h3⟩
  · rw [cell_new]
    have := ints_get vs i (by omega)
    rw [← hcs] at this
    simpa using this
  · rw [h1]
    congr 2
    have hb : (vs.all (· == 0)) = true ↔ ∀ i, i < n → nth vs i = 0 := by
      rw [List.all_eq_true]
      constructor
      · intro h i hi
        have := h _ (nth_mem vs i (by omega))
        simpa using this
      · intro h x hx
        obtain ⟨i, hi, e⟩ := List.getElem_of_mem hx
        have := h i (by omega)
        unfold nth at this
        simp [hi] at this
        rw [← e]; simpa using this
    cases hr : r
    · cases hv : vs.all (· == 0)
      · rfl
      · have := h2.2 (hb.1 hv); rw [hr] at this; cases this
    · exact (hb.2 (h2.1 hr)).symm

def ChanceP (l : List Int) (s : Nat) (X Y er : Int) : Prop :=
  (chkE l [s] ≠ 0 ∧ er = chkE l [s] ∧ X = 0 ∧ Y = 0) ∨ (chkE l [s] = 0 ∧ er = 0 ∧ RedIs (wtL l s) (isum l) X Y)
def GivenP (l : List Int) (s t : Nat) (X Y er : Int) : Prop :=
  (chkE l [s, t] ≠ 0 ∧ er ≠ 0) ∨ (chkE l [s, t] = 0 ∧ t = 0 ∧ er ≠ 0) ∨ (chkE l [s, t] = 0 ∧ 0 < t ∧ er = 0 ∧ RedIs (wtL l (s &&& t)) (wtL l t) X Y)
def RatSaid (P : Int → Int → Int → Prop) (w : World) (e : Ending) (w' : World) : Prop :=
  ∃ X Y er : Int, e = .returned (.tuple #[.agg #[.int .i64 X, .int .i64 Y], .int .i64 er]) ∧ P X Y er ∧ Below w.heap.size w w'
theorem evChance_any (l : List Int) (n : Nat) (a : Option Addr) (ca : Nat) (s : Nat) (w : World) (h : Sa w a (ints l)) (hn : l.length = n) (hs : s < 65536) :
    Calls Try.prog 25 #[.slice a n ca, .int .u16 s] w (RatSaid (ChanceP l s) w) := by
  by_cases h0 : chkE l [s] = 0
  · exact (evChance l n a ca s w h hn hs _ _ h0 ⟨rfl, rfl⟩).mono fun e w' ⟨h1, h2⟩ => ⟨_, _, _, h1, .inr ⟨h0, rfl, rfl, rfl⟩, h2⟩
  · exact (evChance_no l n a ca s w h hn hs _ rfl h0).mono fun e w' ⟨h1, h2⟩ => ⟨_, _, _, h1, .inl ⟨h0, rfl, rfl, rfl⟩, h2⟩
theorem evGiven_any (l : List Int) (n : Nat) (a : Option Addr) (ca : Nat) (s t : Nat) (w : World) (h : Sa w a (ints l)) (hn : l.length = n) (hs : s < 65536) (ht : t < 65536) :
    Calls Try.prog 26 #[.slice a n ca, .int .u16 s, .int .u16 t] w (RatSaid (GivenP l s t) w) := by
  by_cases h0 : chkE l [s, t] = 0
  · rcases Nat.eq_zero_or_pos t with h1 | h1
    · subst h1
      exact (evGiven_zero l n a ca s w h hn hs h0).mono fun e w' ⟨h1, h2⟩ => ⟨_, _, _, h1, .inr (.inl ⟨h0, rfl, by decide⟩), h2⟩
    · exact (evGiven l n a ca s t w h hn hs ht h1 _ _ h0 ⟨rfl, rfl⟩).mono fun e w' ⟨h3, h2⟩ => ⟨_, _, _, h3, .inr (.inr ⟨h0, h1, rfl, rfl, rfl⟩), h2⟩
  · exact (evGiven_no l n a ca s t w h hn hs ht _ rfl h0).mono fun e w' ⟨h1, h2⟩ => ⟨_, _, _, h1, .inl ⟨h0, h0⟩, h2⟩
end Go.Proofs.Ytliajiilcicppaa
