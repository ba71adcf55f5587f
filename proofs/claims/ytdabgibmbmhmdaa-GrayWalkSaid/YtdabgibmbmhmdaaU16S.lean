/- Own slices of uint16; cmp.Less. -/
import Derived.Test.YtdabgibmbmhmdaaArr4
import Derived.Deep.QuietTactic
namespace Go.Proofs.Ytdabgibmbmhmdaa
open Go.RowKit

def uV (l : List Int) : List Value := l.map (Value.int .u16)
theorem uV_len (l : List Int) : (uV l).length = l.length := by simp [uV]
theorem uV_get (l : List Int) (i : Nat) (h : i < l.length) : (uV l)[i]? = some (.int .u16 (nth l i)) := by simp [uV, nth, h]
theorem uV_set (l : List Int) (i : Nat) (y : Int) : (uV l).set i (.int .u16 y) = uV (l.set i y) := by simp [uV, List.map_set]
def eU (g n cap : Nat) (d : List Int) : Ent := ⟨48, .slice (some ⟨g, 0, .none⟩) n cap, uV d⟩
theorem Fr.lenU {w0 w : World} {L : List Ent} {g n cap : Nat} {d : List Int} (h : Fr w0 w (eU g n cap d :: L)) : d.length = n := by
  have := h.len
  rw [uV_len] at this
  exact this.symm
theorem Fr.openU {w0 w : World} {L : List Ent} {g n cap : Nat} {d : List Int} (h : Fr w0 w (eU g n cap d :: L)) (i : Nat) (hi : i < n) :
    w.cell? ⟨g, i, .none⟩ = some (.int .u16 (nth d i)) ∧ w.frozen? ⟨g, i, .none⟩ = false := by
  have hl := h.lenU
  obtain ⟨g', e, _, _, t1, t2⟩ := Fr.open (show Fr w0 w (⟨48, .slice (some ⟨g, 0, .none⟩) n cap, uV d⟩ :: L) from h) (by rw [uV_len]; omega)
  cases e
  have := t1 i (by rw [uV_len]; omega)
  rw [uV_get d i (by omega)] at this
  exact ⟨this, t2 i⟩
theorem Fr.setU {w0 w : World} {L : List Ent} {g n cap : Nat} {d : List Int} (h : Fr w0 w (eU g n cap d :: L)) (i : Nat) (y : Int) :
    Fr w0 (w.setCell ⟨g, i, .none⟩ (.int .u16 y)) (eU g n cap (d.set i y) :: L) := by
  have := Fr.set (show Fr w0 w (⟨48, .slice (some ⟨g, 0, .none⟩) n cap, uV d⟩ :: L) from h) i (.int .u16 y)
  rw [uV_set] at this
  exact this
/-- two places changed -/
def swU (d : List Int) (i j : Nat) : List Int := (d.set i (nth d j)).set j (nth d i)
theorem swU_len (d : List Int) (i j : Nat) : (swU d i j).length = d.length := by simp [swU]
theorem swU_perm (d : List Int) (i j : Nat) (hi : i < d.length) (hj : j < d.length) : (swU d i j).Perm d := by
  have e1 : nth d i = d[i] := by simp [nth, hi]
  have e2 : nth d j = d[j] := by simp [nth, hj]
  unfold swU
  rw [e1, e2]
  exact List.set_set_perm hi hj
theorem Fr.swU {w0 w : World} {L : List Ent} {g n cap : Nat} {d : List Int} (h : Fr w0 w (eU g n cap d :: L)) (i j : Nat) (x y : Int) (hx : nth d i = x) (hy : nth d j = y) :
    Fr w0 ((w.setCell ⟨g, i, .none⟩ (.int .u16 y)).setCell ⟨g, j, .none⟩ (.int .u16 x)) (eU g n cap (Go.Proofs.Ytdabgibmbmhmdaa.swU d i j) :: L) := by
  subst hx hy
  exact (h.setU i _).setU j _
/-- what a call that only moves things in the slice leaves -/
def SrtU (w0 : World) (L : List Ent) (g n cap : Nat) (d : List Int) (w' : World) : Prop := ∃ d' : List Int, d'.Perm d ∧ Fr w0 w' (eU g n cap d' :: L)
theorem isNaNU (x : Int) (w : World) : Calls Try.prog 138 #[.int .u16 x] w fun e w' => e = .returned (.bool false) ∧ w = w' := by
  go_enter Try.func138, Try.ntmps138
  have hx : (x == x) = true := beq_self_eq_true _
  go_wp2_with fail
  go_ret
  exact ⟨by simp, rfl⟩
theorem lessU (x y : Int) (w : World) : Calls Try.prog 107 #[.int .u16 x, .int .u16 y] w fun e w' => e = .returned (.bool (decide (x < y))) ∧ w = w' := by
  obtain ⟨c, hc⟩ : ∃ c, decide (x < y) = c := ⟨_, rfl⟩
  go_enter Try.func107, Try.ntmps107
  go_wp2_with (go_at_call 138; refine (isNaNU _ _).mono ?_; rintro e w' ⟨rfl, rfl⟩)
  go_ret
  exact ⟨by simp [hc], rfl⟩
set_option maxRecDepth 100000 in
set_option maxHeartbeats 4000000 in
theorem revU {w0 : World} {L : List Ent} {g n cap : Nat} {d : List Int} (w : World) (a b : Nat) (F : Fr w0 w (eU g n cap d :: L)) (hab : a ≤ b) (hb : b ≤ n) (hn : n ≤ 100000) :
    Calls Try.prog 105 #[.slice (some ⟨g, 0, .none⟩) n cap, .int .i64 a, .int .i64 b] w fun e w' => e = .returned (.tuple #[]) ∧ SrtU w0 L g n cap d w' := by
  have HF := Lib.hid F
  clear F
  go_enter Try.func105, Try.ntmps105
  go_wp2_with fail
  go_loopw [6, 7] (fun i j wr => ∃ (p : Nat) (q : Int) (d' : List Int), i = .int .i64 p ∧ j = .int .i64 q ∧ a ≤ p ∧ q < n ∧ -1 ≤ q ∧ (p : Int) ≤ n ∧ Hid (d'.Perm d) ∧ Hid (Fr w0 wr (eU g n cap d' :: L))) (fun i j _ => (intOf j + n + 1 - intOf i).toNat)
  case atStart => exact ⟨a, (b : Int) - 1, d, rfl, rfl, by omega, by omega, by omega, by omega, Lib.hid (List.Perm.refl _), HF⟩
  case round =>
    obtain ⟨p, q, d', rfl, rfl, h1, h2, h3, h4, HP, HFr⟩ := hrel
    by_cases hlt : (p : Int) < q
    · obtain ⟨j, rfl⟩ : ∃ j : Nat, q = j := ⟨q.toNat, by omega⟩
      have hl := HFr.out.lenU
      obtain ⟨c1, z1⟩ := HFr.out.openU p (by omega)
      obtain ⟨c2, z2⟩ := HFr.out.openU j (by omega)
      obtain ⟨x, hx⟩ : ∃ x, nth d' p = x := ⟨_, rfl⟩
      obtain ⟨y, hy⟩ : ∃ y, nth d' j = y := ⟨_, rfl⟩
      have HF2 := Lib.hid ((HFr.out.swU p j x y hx hy).drew)
      have HP2 := Lib.hid ((swU_perm d' p j (by omega) (by omega)).trans HP.out)
      rw [hx] at c1
      rw [hy] at c2
      clear hx hy
      have d1 : (0 : Int) ≤ (p : Int) := by omega
      have d2 : (p : Int) < (n : Int) := by omega
      have d3 : (0 : Int) ≤ (j : Int) := by omega
      have d4 : (j : Int) < (n : Int) := by omega
      go_wp2_with fail
      go_region
      go_wp2_with fail
      go_roundw
      case rel => exact ⟨p + 1, (j : Int) - 1, _, by go_num, by go_num, by omega, by omega, by omega, by omega, HP2, HF2⟩
      case measure => simp only [intOf]; omega
    · go_wp2_with fail
      go_end0
      exact ⟨rfl, d', HP.out, HFr.out⟩
end Go.Proofs.Ytdabgibmbmhmdaa
