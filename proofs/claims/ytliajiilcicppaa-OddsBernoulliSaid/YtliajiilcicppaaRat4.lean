/- Contracts of ratio.Check, both, Less at whatever numbers. -/
import Derived.Test.YtliajiilcicppaaRat3
import Derived.Test.YtliajiilcicppaaGood
namespace Go.Proofs.Ytliajiilcicppaa
open Go.RowKit

theorem check_bad (P Q : Int) (w : World) (h : ¬ Rat1 P Q) :
    Calls Try.prog 50 #[.agg #[.int .i64 P, .int .i64 Q]] w fun e w' => ∃ er : Int, e = .returned (.int .i64 er) ∧ (er = 1 ∨ er = 3) ∧ Below w.heap.size w w' := by
  have HH := Lib.hid h; clear h
  by_cases hr : 1 ≤ Q ∧ Q ≤ 1000000000 ∧ -1000000000 ≤ P ∧ P ≤ 1000000000
  · obtain ⟨h1, h2, h3, h4⟩ := hr
    have hg : (((Int.gcd P Q : Nat) : Int) != 1) = true := by
      rw [bne_iff_ne]; intro h; exact HH.out ⟨h1, h2, h3, h4, by omega⟩
    go_enter Try.func50, Try.ntmps50
    go_wp2_with fail
    refine (gcd_any _ _ _ ⟨by omega, by omega⟩ ⟨by omega, by omega⟩).mono ?_; rintro e w1 ⟨rfl, hb⟩
    have HB := Lib.hid (res2 hb).2.2.2.2.2
    clear hb
    go_wp2_with fail
    go_ret
    exact ⟨3, rfl, .inr rfl, HB.out⟩
  · have HR := Lib.hid hr; clear hr
    by_cases h1 : Q < 1
    · have d1 : decide (Q < 1) = true := by simpa using h1
      go_enter Try.func50, Try.ntmps50
      go_wp2_with fail
      go_ret
      exact ⟨1, rfl, .inl rfl, kin_alloc (Below.refl _ _) _⟩
    · have d1 : decide (Q < 1) = false := by simpa using h1
      by_cases h2 : 1000000000 < Q
      · have d2 : decide (1000000000 < Q) = true := by simpa using h2
        go_enter Try.func50, Try.ntmps50
        go_wp2_with fail
        go_ret
        exact ⟨1, rfl, .inl rfl, kin_alloc (Below.refl _ _) _⟩
      · have d2 : decide (1000000000 < Q) = false := by simpa using h2
        by_cases h3 : P < -1000000000
        · have d3 : decide (P < -1000000000) = true := by simpa using h3
          go_enter Try.func50, Try.ntmps50
          go_wp2_with fail
          go_ret
          exact ⟨1, rfl, .inl rfl, kin_alloc (Below.refl _ _) _⟩
        · have d3 : decide (P < -1000000000) = false := by simpa using h3
          have d4 : decide (1000000000 < P) = true := by have := HR.out; simp; omega
          go_enter Try.func50, Try.ntmps50
          go_wp2_with fail
          go_ret
          exact ⟨1, rfl, .inl rfl, kin_alloc (Below.refl _ _) _⟩

theorem both_bad (P Q R S : Int) (w : World) (h : ¬ (Rat1 P Q ∧ Rat1 R S)) :
    Calls Try.prog 36 #[.agg #[.int .i64 P, .int .i64 Q], .agg #[.int .i64 R, .int .i64 S]] w fun e w' => ∃ er : Int, e = .returned (.int .i64 er) ∧ (er = 1 ∨ er = 3) ∧ Below w.heap.size w w' := by
  by_cases h1 : Rat1 P Q
  · have h2 : ¬ Rat1 R S := fun x => h ⟨h1, x⟩
    have H1 := Lib.hid h1; have H2 := Lib.hid h2; clear h h1 h2
    go_enter Try.func36, Try.ntmps36
    go_wp2_with fail
    refine (check_ok _ _ _ H1.out).mono ?_; rintro e w1 ⟨rfl, hb⟩
    obtain ⟨c0, c1, c2, c3, hz, hk⟩ := res22 hb
    have HK := Lib.hid hk; clear hb hk
    go_wp2_with fail
    refine (check_bad _ _ _ H2.out).mono ?_; rintro e w2 ⟨er, rfl, he, hb⟩
    have HB := Lib.hid (kin_trans HK.out hb); have HE := Lib.hid he; clear hb he
    go_wp2_with fail
    go_ret
    exact ⟨er, rfl, HE.out, HB.out⟩
  · have H1 := Lib.hid h1; clear h h1
    go_enter Try.func36, Try.ntmps36
    go_wp2_with fail
    refine (check_bad _ _ _ H1.out).mono ?_; rintro e w1 ⟨er, rfl, he, hb⟩
    have HB := Lib.hid (res22 hb).2.2.2.2.2
    have z : (er != 0) = true := by rw [bne_iff_ne]; omega
    have HE := Lib.hid he; clear hb he
    go_wp2_with fail
    go_ret
    exact ⟨er, rfl, HE.out, HB.out⟩
theorem less_bad (P Q R S : Int) (w : World) (h : ¬ (Rat1 P Q ∧ Rat1 R S)) :
    Calls Try.prog 15 #[.agg #[.int .i64 P, .int .i64 Q], .agg #[.int .i64 R, .int .i64 S]] w fun e w' => ∃ er : Int, e = .returned (.tuple #[.bool false, .int .i64 er]) ∧ (er = 1 ∨ er = 3) ∧ Below w.heap.size w w' := by
  have HH := Lib.hid h; clear h
  go_enter Try.func15, Try.ntmps15
  go_wp2_with fail
  refine (both_bad _ _ _ _ _ HH.out).mono ?_; rintro e w1 ⟨er, rfl, he, hb⟩
  have HB := Lib.hid (res22 hb).2.2.2.2.2
  have z : (er != 0) = true := by rw [bne_iff_ne]; omega
  have HE := Lib.hid he; clear hb he
  go_wp2_with fail
  go_ret2
  exact ⟨er, rfl, HE.out, HB.out⟩
/-- Less at whatever numbers -/
def LessSaid (P Q R S : Int) (w : World) (e : Ending) (w' : World) : Prop :=
  ∃ (l : Bool) (er : Int), e = .returned (.tuple #[.bool l, .int .i64 er]) ∧ ((er = 0 ∧ Rat1 P Q ∧ Rat1 R S ∧ l = decide (P * S < R * Q)) ∨ ((er = 1 ∨ er = 3) ∧ l = false ∧ ¬ (Rat1 P Q ∧ Rat1 R S))) ∧ Below w.heap.size w w'
theorem less_any (P Q R S : Int) (w : World) : Calls Try.prog 15 #[.agg #[.int .i64 P, .int .i64 Q], .agg #[.int .i64 R, .int .i64 S]] w (LessSaid P Q R S w) := by
  by_cases h : Rat1 P Q ∧ Rat1 R S
  · exact (less_ok P Q R S w h.1 h.2).mono fun _ _ ⟨he, hb⟩ => ⟨_, _, he, .inl ⟨rfl, h.1, h.2, rfl⟩, hb⟩
  · exact (less_bad P Q R S w h).mono fun _ _ ⟨er, he, hr, hb⟩ => ⟨_, er, he, .inr ⟨hr, rfl, h⟩, hb⟩
end Go.Proofs.Ytliajiilcicppaa
