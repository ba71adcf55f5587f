/- Rows that are only read; two that are the same. -/
import Derived.Test.YtefblcchmkmfpaaTabO
import Derived.Test.YtefblcchmkmfpaaSlEq2
import Derived.Shelf.Abstract
namespace Go.Proofs.Ytefblcchmkmfpaa
open Go.RowKit

/-- rows that read as these -/
structure Rm (w : World) (a : Option Addr) (R : List Rw) : Prop where
  out : Sa w a (R.map rv)
  row : ∀ p ∈ R, Sa w p.1 (ints p.2.2)
theorem Rm.keep {w w' : World} {a : Option Addr} {R : List Rw} (h : Rm w a R) (k : Below w.heap.size w w') : Rm w' a R := ⟨h.out.keep k, fun p hp => (h.row p hp).keep k⟩
theorem Rm.at {w : World} {a : Option Addr} {R : List Rw} (h : Rm w a R) (i : Nat) (hi : i < R.length) : ∃ b off, a = some ⟨b, off, .none⟩ ∧ b < w.heap.size ∧ w.cell? ⟨b, off + i, .none⟩ = some (rv R[i]) ∧ Sa w R[i].1 (ints R[i].2.2) := by
  obtain ⟨b, off, e, hb, hc⟩ := h.out.at i (by simpa using hi)
  exact ⟨b, off, e, hb, by rw [hc, List.getElem?_map, List.getElem?_eq_getElem hi]; rfl, h.row _ (List.getElem_mem hi)⟩
theorem Fr.rm {w0 w : World} {L : List Ent} {ad : Option Addr} {n cap : Nat} {R : List Rw} (h : Fr w0 w L) (h1 : outE ad n cap R ∈ L) (h2 : ∀ p ∈ R, re p ∈ L) : Rm w ad R :=
  ⟨h.mem h1, fun p hp => h.mem (h2 p hp)⟩
set_option maxRecDepth 100000 in
set_option maxHeartbeats 2000000 in
theorem rowsEqF (R S : List Rw) (n : Nat) (a b : Option Addr) (ca cb : Nat) (w : World) (h : Rm w a R) (h' : Rm w b S) (hn : R.length = n) (e : lsR R = lsR S) (hl : n ≤ 1000) (hr : ∀ p ∈ R, p.2.2.length ≤ 1000) :
    Calls Try.prog 48 #[.slice a n ca, .slice b n cb, .func (.func 27) #[] #[]] w fun e w' => e = .returned (.bool true) ∧ Fr w w' [] := by
  have HN := Lib.hid hn; have HR := Lib.hid h; have HS := Lib.hid h'; have HE := Lib.hid e; have HB := Lib.hid hr
  have HSN : Hid (S.length = n) := Lib.hid (by rw [← lsR_len, ← e, lsR_len, hn])
  clear h h' hn e hr
  have z0 : ((n : Int) != (n : Int)) = false := by simp
  go_enter Try.func48, Try.ntmps48
  go_wp2_with fail
  go_loopw [17] (fun i wr => ∃ k : Nat, k ≤ n ∧ i = .int .i64 k ∧ Fr w wr []) (fun i _ => n - (intOf i).toNat)
  case atStart => exact ⟨0, by omega, rfl, Fr.start w⟩
  case round =>
    obtain ⟨k, hk, rfl, hfr⟩ := hrel
    clear z0
    by_cases hlt : k < n
    · have hkR : k < R.length := by rw [HN.out]; exact hlt
      have hkS : k < S.length := by rw [HSN.out]; exact hlt
      obtain ⟨b1, o1, rfl, hb1, c1, s1⟩ := (HR.out.keep hfr.bel).at k hkR
      obtain ⟨b2, o2, rfl, hb2, c2, s2⟩ := (HS.out.keep hfr.bel).at k hkS
      have hlen := HB.out _ (List.getElem_mem hkR)
      have he : R[k].2.2 = S[k].2.2 := by rw [← lsR_get R k hkR, ← lsR_get S k hkS]; simp only [HE.out]
      obtain ⟨⟨p1, q1, l⟩, hp⟩ : ∃ p : Rw, R[k] = p := ⟨_, rfl⟩
      obtain ⟨⟨p2, q2, m⟩, hq⟩ : ∃ p : Rw, S[k] = p := ⟨_, rfl⟩
      rw [hp] at c1 s1 hlen he
      rw [hq] at c2 s2 he
      have he : l = m := he
      subst he
      have hlen : l.length ≤ 1000 := hlen
      simp only [rv] at c1 c2
      simp only at s1 s2
      obtain ⟨z, hz⟩ : ∃ z, l.length = z := ⟨_, rfl⟩
      rw [hz] at c1 c2 hlen
      have HZ := Lib.hid hz
      clear hp hq hz
      have d1 : (0 : Int) ≤ (k : Int) := by omega
      have d2 : (k : Int) < (n : Int) := by omega
      have hcall := slEqual l l z z p1 p2 q1 q2 wr s1 s2 HZ.out HZ.out (by omega) (by omega)
      rw [decide_eq_true rfl] at hcall
      have HC := Lib.hid hcall
      clear hcall s1 s2
      go_wp2_with fail
      refine HC.out.mono ?_; rintro e w2 ⟨rfl, hf2⟩
      go_wp2_with fail
      go_roundw
      case rel => exact ⟨k + 1, by omega, by go_num, hfr.keep hf2.bel⟩
      case measure => simp only [intOf]; omega
    · go_wp2_with fail
      go_ret
      exact ⟨rfl, hfr⟩
set_option maxHeartbeats 1000000 in
theorem rowsSame (R S : List Rw) (n : Nat) (a b : Option Addr) (ca cb : Nat) (w : World) (h : Rm w a R) (h' : Rm w b S) (hn : R.length = n) (e : lsR R = lsR S) (hl : n ≤ 1000) (hr : ∀ p ∈ R, p.2.2.length ≤ 1000) :
    Calls Try.prog 23 #[.slice a n ca, .slice b n cb] w fun e w' => e = .returned (.bool true) ∧ Fr w w' [] := by
  have HC := Lib.hid (rowsEqF R S n a b ca cb w h h' hn e hl hr)
  clear h h' hn e hr
  go_enter Try.func23, Try.ntmps23
  go_wp2_with fail
  refine HC.out.mono ?_; rintro e w' ⟨rfl, hf⟩
  have HF := Lib.hid hf
  clear hf
  go_wp2_with fail
  go_ret
  exact ⟨rfl, HF.out⟩
end Go.Proofs.Ytefblcchmkmfpaa
