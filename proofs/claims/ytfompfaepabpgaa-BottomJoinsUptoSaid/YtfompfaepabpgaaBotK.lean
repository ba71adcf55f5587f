/- castkeep.bottoms and castkeep.sameSample. -/
import Derived.Test.YtfompfaepabpgaaBotJ
import Derived.Test.YtfompfaepabpgaaSlEqS
namespace Go.Proofs.Ytfompfaepabpgaa
open Go.RowKit

theorem setS_two {l : List ByteArray} {x y : ByteArray} (hx : x ∈ l) (hy : y ∈ l) (hne : x ≠ y) : 2 ≤ (setS l).length := by
  obtain ⟨h1, h2⟩ := setS_in l
  have hx := (h2 x).2 hx
  have hy := (h2 y).2 hy
  rcases hl : setS l with _ | ⟨u, _ | ⟨v, r⟩⟩
  · rw [hl] at hx; cases hx
  · rw [hl] at hx hy
    exact absurd ((List.mem_singleton.1 hx).trans (List.mem_singleton.1 hy).symm) hne
  · simp
def nm4 : List ByteArray := [⟨#[97]⟩, ⟨#[98]⟩, ⟨#[97]⟩, ⟨#[99]⟩]
theorem nm4_len : (skS 2 nm4).length = 2 := by
  have h : 2 ≤ (setS nm4).length := setS_two (x := ⟨#[97]⟩) (y := ⟨#[98]⟩) List.mem_cons_self (List.mem_cons_of_mem _ List.mem_cons_self) (by decide)
  unfold skS
  rw [List.length_take]; omega
theorem nm4_sz : ∀ x ∈ nm4, x.size ≤ 12 := by
  intro x hx
  unfold nm4 at hx
  simp only [List.mem_cons, List.not_mem_nil, or_false] at hx
  rcases hx with rfl | rfl | rfl | rfl <;> decide
set_option maxRecDepth 100000 in
set_option maxHeartbeats 4000000 in
theorem bottomsOk (hsort : SortsNames) (w : World) : Calls Try.prog 22 #[] w (RetB true w) := by
  obtain ⟨N, hN⟩ : ∃ N, w.heap.size = N := ⟨_, rfl⟩
  have h1 := (Fr.start w).new 9 #[.string ⟨#[97]⟩, .string ⟨#[98]⟩, .string ⟨#[97]⟩, .string ⟨#[99]⟩] (strV nm4) rfl 4 rfl (by omega)
  rw [hN] at h1
  have HF1 := Lib.hid h1
  have HO := Lib.hid (fun cap => botOf hsort 2 nm4 4 (some ⟨N, 0, none⟩) cap _ (h1.get 0 rfl) rfl (fun h => by cases h) (by omega) (by omega) (by omega))
  clear h1 hsort
  go_enter Try.func22, Try.ntmps22
  go_wp2_with fail
  refine (HO.out _).mono ?_; rintro e w1 hp
  rcases hp with ⟨-, ad, cp, rfl, hf⟩ | ⟨⟨x, hx, hz⟩, -⟩
  · rw [nm4_len] at hf ⊢
    obtain ⟨P, hP⟩ : ∃ P, w1.heap.size = P := ⟨_, rfl⟩
    have h2 := (HF1.out.call hf).new 48 #[.int .i64 2, .slice ad 2 cp] [.int .i64 2, .slice ad 2 cp] rfl 2 rfl (by omega)
    rw [hP] at h2
    have HF2 := Lib.hid h2
    obtain ⟨-, c0, c1⟩ := smCells (h2.get 0 rfl)
    have HCk := Lib.hid (botChk 2 (skS 2 nm4) 2 ad cp _ (h2.get 1 rfl) nm4_len (by decide))
    rw [chkB_ok.2 (show SmOk 2 (skS 2 nm4) from sk_ok 2 nm4 (by omega) (by omega) nm4_sz)] at HCk
    rw [show ((2 : Nat) : Int) = 2 from rfl]
    clear h2 hf HO HF1
    go_wp2_with fail
    refine HCk.out.mono ?_; rintro e w2 ⟨rfl, hf2⟩
    go_wp2_with fail
    go_ret
    exact ⟨rfl, (HF2.out.keep hf2.bel).below⟩
  · exact absurd (nm4_sz x hx) (by omega)
set_option maxRecDepth 100000 in
set_option maxHeartbeats 4000000 in
theorem sameSm (k : Nat) (l : List ByteArray) (n : Nat) (a b : Option Addr) (ca cb : Nat) (w : World) (h : Sa w a (strV l)) (h' : Sa w b (strV l)) (hn : l.length = n) (hl : n ≤ 1000000) :
    Calls Try.prog 29 #[.agg #[.int .i64 k, .slice a n ca], .agg #[.int .i64 k, .slice b n cb]] w (RetB true w) := by
  obtain ⟨N, hN⟩ : ∃ N, w.heap.size = N := ⟨_, rfl⟩
  have h1 := (Fr.start w).new 48 #[.int .i64 k, .slice a n ca] [.int .i64 k, .slice a n ca] rfl 2 rfl (by omega)
  have h2 := h1.new 48 #[.int .i64 k, .slice b n cb] [.int .i64 k, .slice b n cb] rfl 2 rfl (by omega)
  have HF := Lib.hid h2
  have HC := Lib.hid (slEqS l l n n a b ca cb _ (h2.old h) (h2.old h') hn hn (by unfold maxLen; omega) (by unfold maxLen; omega))
  rw [show decide (l = l) = true from decide_eq_true rfl] at HC
  have g : ((k : Int) == (k : Int)) = true := beq_self_eq_true _
  clear h1 h2 h h' hn
  go_enter Try.func29, Try.ntmps29
  go_wp2_with fail
  refine HC.out.mono ?_; rintro e w1 ⟨rfl, hf⟩
  go_wp2_with fail
  go_ret
  exact ⟨rfl, (HF.out.keep hf.bel).below⟩
end Go.Proofs.Ytfompfaepabpgaa
