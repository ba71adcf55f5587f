/- Contracts of chain.trees, chain.Rest. -/
import Derived.Test.YtghobphnjfgjeaaCha2
namespace Go.Proofs.Ytghobphnjfgjeaa
open Go.RowKit

theorem Fr.newN {w0 w : World} {L : List Ent} (h : Fr w0 w L) (T : TypeId) (cs : Array Value) (xs : List Value) (e : cs.toList = xs) (n : Nat) (hn : n = xs.length) (hl : n ≤ 1000000) (N : Nat) (hN : w.heap.size = N) :
    Fr w0 (w.alloc (.cells cs T)) (⟨T, .slice (some ⟨N, 0, .none⟩) n n, xs⟩ :: L) := by subst hN; exact h.new T cs xs e n hn hl
theorem nts_rep (n : Nat) : List.replicate n (0 : Int) = nts (List.replicate n 0) := by simp [nts]
set_option maxRecDepth 100000 in
set_option maxHeartbeats 2000000 in
theorem chaTrees (R : List Rw) (n root : Nat) (a : Option Addr) (ca : Nat) (w : World) (h : Mx w a R) (hn : R.length = n) (hok : COk (mOf R) n) (hroot : root < n) :
    Calls Try.prog 53 #[.slice a n ca, .int .i64 (root : Int)] w fun e w' => e = .returned (.int .i64 (treeT (mOf R) n root)) ∧ Below w.heap.size w w' := by
  have n1 := hok.n1
  have n5 := hok.n5
  have hmk := make_ints n (by omega)
  have hle := hT_le (mOf R) n root (fun i k => (hok.bd i k).1) (fun i k => (hok.bd i k).2) n5 n []
  have hnn := hT_nonneg (mOf R) n root (fun i k => (hok.bd i k).1) n []
  have hle2 : hT (mOf R) n root n [] ≤ 10000000000 := by
    have : n = 1 ∨ n = 2 ∨ n = 3 ∨ n = 4 ∨ n = 5 := by omega
    rcases this with rfl | rfl | rfl | rfl | rfl <;> omega
  have HS := Lib.hid h; have HN := Lib.hid hn; have HK := Lib.hid hok; have HNN := Lib.hid hnn
  clear h hn hok hle hnn
  go_enter Try.func53, Try.ntmps53
  go_wp2_with fail
  clear hmk
  have F0 := (((((((Fr.start w).newN 48 #[.slice a n ca] [.slice a n ca] rfl 1 rfl (by omega) w.heap.size rfl).newN 3 #[.int .i64 (root : Int)] [.int .i64 (root : Int)] rfl 1 rfl (by omega) (w.heap.size + 1) (by simp)).newN 3 #[.int .i64 (n : Int)] [.int .i64 (n : Int)] rfl 1 rfl (by omega) (w.heap.size + 1 + 1) (by simp)).newN 3 #[.int .i64 0] [.int .i64 0] rfl 1 rfl (by omega) (w.heap.size + 1 + 1 + 1) (by simp)).makeInts' n (by omega) (w.heap.size + 1 + 1 + 1 + 1) (by simp)).newN 35 #[.slice (some ⟨w.heap.size + 1 + 1 + 1 + 1, 0, .none⟩) n n] [.slice (some ⟨w.heap.size + 1 + 1 + 1 + 1, 0, .none⟩) n n] rfl 1 rfl (by omega) (w.heap.size + 1 + 1 + 1 + 1 + 1) (by simp)).newN 74 #[chosenV (w.heap.size + 1 + 1) (w.heap.size + 1) (w.heap.size + 1 + 1 + 1 + 1 + 1) (w.heap.size + 1 + 1 + 1) (w.heap.size + 1 + 1 + 1 + 1 + 1 + 1) w.heap.size] [chosenV (w.heap.size + 1 + 1) (w.heap.size + 1) (w.heap.size + 1 + 1 + 1 + 1 + 1) (w.heap.size + 1 + 1 + 1) (w.heap.size + 1 + 1 + 1 + 1 + 1 + 1) w.heap.size] rfl 1 rfl (by omega) (w.heap.size + 1 + 1 + 1 + 1 + 1 + 1) (by simp)
  rw [nts_rep n] at F0
  have F1 := F0.perm (M := stE n root a ca (w.heap.size + 1 + 1 + 1 + 1) (w.heap.size + 1 + 1) (w.heap.size + 1) (w.heap.size + 1 + 1 + 1 + 1 + 1) (w.heap.size + 1 + 1 + 1) (w.heap.size + 1 + 1 + 1 + 1 + 1 + 1) w.heap.size (List.replicate n 0) 0) (by
    unfold stE stK cellE
    refine List.Perm.trans (List.Perm.swap _ _ _) ?_
    exact (List.perm_append_comm (l₁ := [_, _]) (l₂ := [_, _, _, _])).append_right [_])
  have hrep : ∀ j, (List.replicate n (0 : Nat)).getD j 0 = 0 := fun j => by
    rw [List.getD_eq_getElem?_getD, List.getElem?_replicate]; split <;> rfl
  refine (choose_any R n root a ca _ _ _ _ _ _ _ HN.out HK.out hroot HS.out n 0 (by omega) _ (List.replicate n 0) 0 1 F1 (by simp) (hrep root) (fun j => by rw [hrep j]; omega) (by omega) (by rw [List.take_zero]; omega) (by omega) (by simp)).mono ?_
  rintro e w' ⟨rfl, Tl', k1, k2, k3, k4, k5⟩
  rw [List.take_zero, Int.zero_add, Int.one_mul] at k5
  have HF := Lib.hid k5
  have cs : w'.cell? ⟨w.heap.size + 1 + 1 + 1, 0, .none⟩ = some (.int .i64 (hT (mOf R) n root n [])) := k5.cell1 1 rfl
  clear k1 k2 k3 k4 k5 F0 F1 hrep
  go_wp2_with fail
  go_ret
  exact ⟨rfl, HF.out.bel⟩
def restP (M : List (List Int)) (n k : Nat) : List Int := (List.range n).map fun j => if j < k then treeT M n j else 0
theorem restP_len (M : List (List Int)) (n k : Nat) : (restP M n k).length = n := by simp [restP]
theorem restP_zero (M : List (List Int)) (n : Nat) : List.replicate n 0 = restP M n 0 := ext_nth (by simp [restP]) (fun i hi => by
  rw [List.length_replicate] at hi
  rw [nth_rep _ _ _ hi]; simp [nth, restP, hi])
theorem restP_nth (M : List (List Int)) (n k j : Nat) (h : j < n) : nth (restP M n k) j = if j < k then treeT M n j else 0 := by simp [nth, restP, h]
theorem restP_step (M : List (List Int)) (n k : Nat) (h : k < n) : (restP M n k).set k (treeT M n k) = restP M n (k + 1) := ext_nth (by simp [restP]) (fun i hi => by
  rw [List.length_set, restP_len] at hi
  rw [nth_set _ _ _ _ (by rw [restP_len]; exact h), restP_nth _ _ _ _ hi, restP_nth _ _ _ _ hi]
  by_cases e : i = k
  · rw [if_pos e, if_pos (by omega), e]
  · rw [if_neg e]
    by_cases h2 : i < k
    · rw [if_pos h2, if_pos (by omega)]
    · rw [if_neg h2, if_neg (by omega)])
def restL (M : List (List Int)) (n : Nat) : List Int := restP M n n
theorem restL_nth (M : List (List Int)) (n j : Nat) (h : j < n) : nth (restL M n) j = treeT M n j := by rw [restL, restP_nth _ _ _ _ h, if_pos h]
def someT (M : List (List Int)) (n : Nat) : Nat → Bool
  | 0 => false
  | k + 1 => someT M n k || decide (0 < treeT M n k)
def RestSaid (R : List Rw) (n : Nat) (w : World) (e : Ending) (w' : World) : Prop :=
  (∃ er, er ≠ 0 ∧ chkC (mOf R) = er ∧ e = .returned (.tuple #[.slice none 0 0, .int .i64 er]) ∧ w = w') ∨
  (chkC (mOf R) = 0 ∧ someT (mOf R) n n = false ∧ e = .returned (.tuple #[.slice none 0 0, .int .i64 4]) ∧ Fr w w' []) ∨
  (chkC (mOf R) = 0 ∧ someT (mOf R) n n = true ∧ ∃ ad, e = .returned (.tuple #[.slice ad n n, .int .i64 0]) ∧ Fr w w' [⟨3, .slice ad n n, ints (restL (mOf R) n)⟩])
set_option maxRecDepth 100000 in
set_option maxHeartbeats 4000000 in
theorem chaRest (R : List Rw) (n : Nat) (a : Option Addr) (ca : Nat) (w : World) (h : Mx w a R) (hn : R.length = n) (hl : ∀ p ∈ R, p.2.2.length ≤ maxLen) :
    Calls Try.prog 36 #[.slice a n ca] w (RestSaid R n w) := by
  have HS := Lib.hid h; have HN := Lib.hid hn; have HL := Lib.hid hl
  have hm : (mOf R).length = n := by simp [mOf, hn]
  have HM := Lib.hid hm
  clear h hn hl hm
  by_cases he : chkC (mOf R) ≠ 0
  · obtain ⟨er, her⟩ : ∃ er, chkC (mOf R) = er := ⟨_, rfl⟩
    rw [her] at he
    have HE := Lib.hid her
    have z : (er != 0) = true := by rw [bne_iff_ne]; exact he
    clear her
    go_enter Try.func36, Try.ntmps36
    go_wp2_with fail
    refine (chaChk R n _ _ _ HS.out HN.out HL.out).mono ?_; rintro e w' ⟨rfl, rfl⟩
    rw [HE.out]
    go_wp2_with fail
    go_ret2
    exact .inl ⟨er, he, HE.out, rfl, rfl⟩
  · have he : chkC (mOf R) = 0 := by omega
    have hok := chkC_ok he
    rw [HM.out] at hok
    have n1 := hok.n1
    have n5 := hok.n5
    have HE := Lib.hid he; have HK := Lib.hid hok
    have hmk := make_ints n (by omega)
    clear he hok
    go_enter Try.func36, Try.ntmps36
    go_wp2_with fail
    refine (chaChk R n _ _ _ HS.out HN.out HL.out).mono ?_; rintro e w' ⟨rfl, rfl⟩
    rw [HE.out]
    go_wp2_with fail
    clear hmk
    have F1 := (Fr.start w).makeInts n (by omega)
    rw [restP_zero (mOf R) n] at F1
    have HF1 := Lib.hid F1
    clear F1
    go_loopw [6, 18] (fun s6 i wr => ∃ (k : Nat) (A : Bool), k ≤ n ∧ i = .int .i64 k ∧ s6 = .bool A ∧ Hid (someT (mOf R) n k = A) ∧ Hid (Fr w wr [⟨3, .slice (some ⟨w.heap.size, 0, none⟩) n n, ints (restP (mOf R) n k)⟩])) (fun _ i _ => n - (intOf i).toNat)
    case atStart => exact ⟨0, false, by omega, rfl, rfl, Lib.hid rfl, HF1⟩
    case round =>
      clear HF1
      obtain ⟨k, A, hk, rfl, rfl, HA, HF⟩ := hrel
      by_cases hlt : k < n
      · have hst := restP_step (mOf R) n k hlt
        have hso : someT (mOf R) n (k + 1) = (someT (mOf R) n k || decide (0 < treeT (mOf R) n k)) := rfl
        rw [HA.out] at hso
        have hM2 := Lib.hid (HS.out.keep HF.out.bel)
        have i1 : (0 : Int) ≤ (k : Int) := by omega
        have i2 : (k : Int) < (n : Int) := by omega
        have HST := Lib.hid hst; have HSO := Lib.hid hso
        clear hst hso
        go_wp2_with fail
        refine (chaTrees R n k _ _ _ hM2.out HN.out HK.out hlt).mono ?_; rintro e w2 ⟨rfl, hb⟩
        have HF2 := Lib.hid (HF.out.keep hb)
        obtain ⟨_, e, _, ck, fk⟩ := HF2.out.openI k (by rw [restP_len]; exact hlt)
        cases e
        obtain ⟨X, hX⟩ : ∃ X, treeT (mOf R) n k = X := ⟨_, rfl⟩
        rw [hX] at HST HSO ⊢
        have hf := HF2.out.setInt k X
        rw [HST.out] at hf
        have HF3 := Lib.hid hf
        clear hb hX hf
        cases A
        · by_cases hX0 : 0 < X
          · have g1 : decide (0 < X) = true := decide_eq_true hX0
            have HA2 : Hid (someT (mOf R) n (k + 1) = true) := Lib.hid (by rw [HSO.out, g1]; rfl)
            go_wp2_with fail
            exact ⟨⟨k + 1, true, by omega, by simp, rfl, HA2, HF3⟩, by simp only [intOf]; omega⟩
          · have g1 : decide (0 < X) = false := decide_eq_false hX0
            have HA2 : Hid (someT (mOf R) n (k + 1) = false) := Lib.hid (by rw [HSO.out, g1]; rfl)
            go_wp2_with fail
            exact ⟨⟨k + 1, false, by omega, by simp, rfl, HA2, HF3⟩, by simp only [intOf]; omega⟩
        · have HA2 : Hid (someT (mOf R) n (k + 1) = true) := Lib.hid (by rw [HSO.out]; rfl)
          go_wp2_with fail
          exact ⟨⟨k + 1, true, by omega, by simp, rfl, HA2, HF3⟩, by simp only [intOf]; omega⟩
      · obtain rfl : k = n := by omega
        cases A
        · go_wp2_with fail
          go_ret2
          exact .inr (.inl ⟨HE.out, HA.out, rfl, HF.out.below⟩)
        · go_wp2_with fail
          go_ret2
          exact .inr (.inr ⟨HE.out, HA.out, _, rfl, HF.out⟩)
end Go.Proofs.Ytghobphnjfgjeaa
