/- Several of my texts in one: SlCmp. -/
import Derived.Test.YtooghdnlaonkaaaPw22
/- slices.Compare over two slices of one length. -/
namespace Go.Proofs.Ytooghdnlaonkaaa
open Go.RowKit

def cmp2B (x y : Int) : Int := if x < y then -1 else if y < x then 1 else 0
def lexCB : List Int → List Int → Int
  | a :: l, b :: m => if cmp2B a b = 0 then lexCB l m else cmp2B a b
  | _, _ => 0
theorem lexCB_drop (l m : List Int) (k : Nat) (h : k < l.length) (h' : k < m.length) :
    lexCB (l.drop k) (m.drop k) = if cmp2B (l.getD k 0) (m.getD k 0) = 0 then lexCB (l.drop (k + 1)) (m.drop (k + 1)) else cmp2B (l.getD k 0) (m.getD k 0) := by
  rw [List.drop_eq_getElem_cons h, List.drop_eq_getElem_cons h']
  simp [lexCB, h, h']

theorem isNaN_intB (x : Int) (w : World) : Calls Try.prog 158 #[.int .i64 x] w fun e w' => e = .returned (.bool false) ∧ w = w' := by
  go_enter Try.func158, Try.ntmps158
  have hx : (x == x) = true := beq_self_eq_true _
  go_wp2_with fail
  go_ret
  exact ⟨by simp, rfl⟩

theorem cmp_intB (x y : Int) (w : World) : Calls Try.prog 127 #[.int .i64 x, .int .i64 y] w fun e w' => e = .returned (.int .i64 (cmp2B x y)) ∧ w = w' := by
  rcases Int.lt_trichotomy x y with h | h | h
  · have HC := Lib.hid (show cmp2B x y = -1 from by unfold cmp2B; rw [if_pos h])
    go_enter Try.func127, Try.ntmps127
    go_wp2_with (go_at_call 158; refine (isNaN_intB _ _).mono ?_; rintro e w' ⟨rfl, rfl⟩)
    go_ret
    exact ⟨by rw [HC.out]; rfl, rfl⟩
  · have HC := Lib.hid (show cmp2B x y = 0 from by unfold cmp2B; rw [if_neg (by omega), if_neg (by omega)])
    go_enter Try.func127, Try.ntmps127
    go_wp2_with (go_at_call 158; refine (isNaN_intB _ _).mono ?_; rintro e w' ⟨rfl, rfl⟩)
    go_ret
    exact ⟨by rw [HC.out]; rfl, rfl⟩
  · have HC := Lib.hid (show cmp2B x y = 1 from by unfold cmp2B; rw [if_neg (by omega), if_pos h])
    go_enter Try.func127, Try.ntmps127
    go_wp2_with (go_at_call 158; refine (isNaN_intB _ _).mono ?_; rintro e w' ⟨rfl, rfl⟩)
    go_ret
    exact ⟨by rw [HC.out]; rfl, rfl⟩

set_option maxHeartbeats 1000000 in
theorem slCompareB (l m : List Int) (v u : Value) (w : World) (h : Sl w v l) (h' : Sl w u m) (hlm : l.length = m.length) (hl : l.length ≤ 1000000) :
    Calls Try.prog 85 #[v, u] w fun e w' => e = .returned (.int .i64 (lexCB l m)) ∧ w = w' := by
  rcases h with ⟨rfl, a, cap, rfl⟩ | ⟨h0, b, off, cap, rfl, hb, hc⟩
  · rcases h' with ⟨rfl, a', cap', rfl⟩ | ⟨h0', _⟩
    · go_enter Try.func85, Try.ntmps85
      go_wp2_with fail
      go_loop [11] (fun i => i = .int .i64 0) (fun _ => 0)
      case atStart => rfl
      case round =>
        subst hrel
        go_wp2_with fail
        go_ret
        exact ⟨rfl, rfl⟩
    · simp at hlm; omega
  · rcases h' with ⟨h1, _⟩ | ⟨h0', b', off', cap', rfl, hb', hc'⟩
    · rw [h1, List.length_nil] at hlm; omega
    obtain ⟨f, hf⟩ : ∃ f : Nat → Int, ∀ i, f i = l.getD i 0 := ⟨fun i => l.getD i 0, fun _ => rfl⟩
    obtain ⟨g, hg⟩ : ∃ g : Nat → Int, ∀ i, g i = m.getD i 0 := ⟨fun i => m.getD i 0, fun _ => rfl⟩
    have HC : Hid (∀ i, i < l.length → w.cell? ⟨b, off + i, none⟩ = some (.int .i64 (f i))) := Lib.hid (fun i hi => by rw [hc i hi, hf])
    have HC' : Hid (∀ i, i < l.length → w.cell? ⟨b', off' + i, none⟩ = some (.int .i64 (g i))) := Lib.hid (fun i hi => by rw [hc' i (by omega), hg])
    have HF := Lib.hid hf; have HG := Lib.hid hg
    clear hc hf hb hc' hb' hg
    rw [← hlm] at h0' ⊢
    generalize hn : l.length = n at *
    have HN := Lib.hid hn; have HM := Lib.hid hlm; clear hn hlm
    go_enter Try.func85, Try.ntmps85
    go_wp2_with fail
    go_loop [11] (fun i => ∃ k : Nat, k ≤ n ∧ Hid (lexCB l m = lexCB (l.drop k) (m.drop k)) ∧ i = .int .i64 k) (fun i => n - (intOf i).toNat)
    case atStart => exact ⟨0, by omega, Lib.hid (by simp), rfl⟩
    case round =>
      obtain ⟨k, hk, HE, rfl⟩ := hrel
      by_cases hlt : k < n
      · have hcell := HC.out k hlt
        have hcell' := HC'.out k hlt
        have hd := lexCB_drop l m k (by rw [HN.out]; exact hlt) (by rw [← HM.out]; exact hlt)
        rw [← HF.out, ← HG.out] at hd
        by_cases hz : cmp2B (f k) (g k) = 0
        · rw [if_pos hz] at hd
          have HD := Lib.hid hd; clear hd
          have hz' : (cmp2B (f k) (g k) == 0) = true := by rw [beq_iff_eq]; exact hz
          clear hz
          go_wp2_with (go_at_call 127; refine (cmp_intB _ _ _).mono ?_; rintro e w' ⟨rfl, rfl⟩)
          go_round
          case rel => exact ⟨k + 1, by omega, Lib.hid (by rw [HE.out, HD.out]), by go_num⟩
          case measure => simp [intOf]; omega
        · rw [if_neg hz] at hd
          have HD := Lib.hid hd; clear hd
          have hz' : (cmp2B (f k) (g k) == 0) = false := by rw [beq_eq_false_iff_ne]; exact hz
          clear hz
          go_wp2_with (go_at_call 127; refine (cmp_intB _ _ _).mono ?_; rintro e w' ⟨rfl, rfl⟩)
          go_ret
          exact ⟨by rw [HE.out, HD.out]; rfl, rfl⟩
      · go_wp2_with fail
        go_ret
        have e1 : l.drop k = [] := List.drop_of_length_le (by rw [HN.out]; omega)
        exact ⟨by rw [HE.out, e1]; rfl, rfl⟩
end Go.Proofs.Ytooghdnlaonkaaa
