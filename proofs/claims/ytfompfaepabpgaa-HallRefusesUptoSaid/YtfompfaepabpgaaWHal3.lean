/- The walk of HallRefuses. -/
import Derived.Test.YtfompfaepabpgaaDeedF
import Derived.Test.YtfompfaepabpgaaHalL
namespace Go.Proofs.Ytfompfaepabpgaa
open Go.RowKit

/-- two halls beside each other -/
def Hw2 (w0 w : World) (H G : Nat) (s t : HSt) (B : List Big) : Prop := ∃ am cm al cl, Hw w0 w H s (hallE G am cm al cl t B)
theorem Hw2.swap {w0 w : World} {H G : Nat} {s t : HSt} {B : List Big} (h : Hw2 w0 w H G s t B) : Hw2 w0 w G H t s B := by
  obtain ⟨am, cm, al, cl, am', cm', al', cl', hf⟩ := h
  refine ⟨am', cm', al', cl', am, cm, al, cl, hf.perm ?_⟩
  show List.Perm ([eH H _ _, eM am' cm' s.M, eL al' cl' s.L] ++ ([eH G _ _, eM am cm t.M, eL al cl t.L] ++ B)) _
  exact List.perm_append_comm_assoc _ _ _
theorem Hw2.below {w0 w : World} {H G : Nat} {s t : HSt} {B : List Big} (h : Hw2 w0 w H G s t B) : Below w0.heap.size w0 w := by
  obtain ⟨_, _, _, _, hf⟩ := h
  exact hf.below
theorem Hw2.keep {w0 w w' : World} {H G : Nat} {s t : HSt} {B : List Big} (h : Hw2 w0 w H G s t B) (b : Below w.heap.size w w') : Hw2 w0 w' H G s t B := by
  obtain ⟨_, _, _, _, hf⟩ := h
  exact ⟨_, _, _, _, hf.keep b⟩
theorem Hw2.sub {w0 w : World} {H G : Nat} {s t : HSt} {B C : List Big} (h : Hw2 w0 w H G s t B) (p : C.Sublist B) : Hw2 w0 w H G s t C := by
  obtain ⟨am, cm, al, cl, hf⟩ := h
  exact ⟨am, cm, al, cl, hf.sub (.cons_cons _ (.cons_cons _ (.cons_cons _ p)))⟩
theorem Hw2.told {w0 w : World} {H G : Nat} {s t : HSt} {B : List Big} (h : Hw2 w0 w H G s t B) {N : Nat} {nm : ByteArray} {n : Int} (he : eT N nm n ∈ B) :
    w.cell? ⟨N, 0, .none⟩ = some (.string nm) ∧ w.cell? ⟨N, 1, .none⟩ = some (.int .i64 n) ∧ w.frozen? ⟨N, 0, .none⟩ = false ∧ w.frozen? ⟨N, 1, .none⟩ = false := by
  obtain ⟨am, cm, al, cl, hf⟩ := h
  exact hf.told (by simp [hallE, he])
theorem Hw2.deed {w0 w : World} {H G : Nat} {s t : HSt} {B : List Big} (h : Hw2 w0 w H G s t B) {N : Nat} {k n : Int} {nm to : ByteArray} (he : eD N k n nm to ∈ B) :
    w.cell? ⟨N, 0, .none⟩ = some (.int .i64 k) ∧ w.cell? ⟨N, 1, .none⟩ = some (.int .i64 n) ∧ w.cell? ⟨N, 2, .none⟩ = some (.string nm) ∧ w.cell? ⟨N, 3, .none⟩ = some (.string to) ∧ N < w.heap.size := by
  obtain ⟨am, cm, al, cl, hf⟩ := h
  exact hf.deed (by simp [hallE, he])
theorem Hw2.newTold {w0 w : World} {H G : Nat} {s t : HSt} {B : List Big} (h : Hw2 w0 w H G s t B) (nm : ByteArray) (n : Int) {N : Nat} (hN : w.heap.size = N) : Hw2 w0 (w.alloc (.cells #[.string nm, .int .i64 n] 32)) H G s t (eT N nm n :: B) := by
  obtain ⟨am, cm, al, cl, hf⟩ := h
  refine ⟨am, cm, al, cl, (hf.newTold nm n hN).perm ?_⟩
  exact (List.perm_middle (a := eT N nm n) (l₁ := [_, _, _]) (l₂ := B)).symm
theorem Hw2.newDeed {w0 w : World} {H G : Nat} {s t : HSt} {B : List Big} (h : Hw2 w0 w H G s t B) (k n : Int) (nm to : ByteArray) {N : Nat} (hN : w.heap.size = N) : Hw2 w0 (w.alloc (.cells #[.int .i64 k, .int .i64 n, .string nm, .string to] 27)) H G s t (eD N k n nm to :: B) := by
  obtain ⟨am, cm, al, cl, hf⟩ := h
  refine ⟨am, cm, al, cl, (hf.newDeed k n nm to hN).perm ?_⟩
  exact (List.perm_middle (a := eD N k n nm to) (l₁ := [_, _, _]) (l₂ := B)).symm
/-- a deed in the first of two halls -/
theorem halDo2h {w0 w : World} (H G : Nat) (s t : HSt) (B : List Big) (K : Nat) (k n : Int) (nm to : ByteArray) (h : Hw2 w0 w H G s t B) (ok : HOk s K) (hK : (K + 1) * 40 ≤ 140737488355328) (hs : nm.size ≤ maxLen) :
    Calls Try.prog 15 #[.pointer (some ⟨H, 0, .none⟩), .agg #[.int .i64 k, .int .i64 n, .string nm, .string to]] w
      fun e w' => e = .returned (.tuple #[.agg #[.string (doS s k n nm to).nm, .int .i64 (doS s k n nm to).n], .int .i64 (doS s k n nm to).er]) ∧ Hw2 w0 w' H G (doS s k n nm to).s t B := by
  obtain ⟨am, cm, al, cl, hf⟩ := h
  exact (halDo H s _ K k n nm to hf ok hK hs).mono fun e w' ⟨h1, h2⟩ => ⟨h1, am, cm, al, cl, h2⟩
set_option maxRecDepth 100000 in
set_option maxHeartbeats 16000000 in
theorem refuses_row (a : Option Addr) (n cap : Nat) (dk dn : Int) (dnm dto : ByteArray) (b : Option Addr) (m mcap : Nat) (w : World) (hrow : IsStr [.int, .int, .str, .str] w a n cap) (hz : dnm.size ≤ maxLen) (hrow2 : IsStr [.int, .int, .str, .str] w b m mcap)
    (sz : n ≤ 1048576) (sz2 : m ≤ 1048576) :
    Calls Try.prog 5 #[.slice a n cap, .agg #[.int .i64 dk, .int .i64 dn, .string dnm, .string dto], .slice b m mcap] w fun e w' => e = .returned (.bool true) ∧ Below w.heap.size w w' := by
  obtain ⟨D, hD⟩ := hrow.deeds
  obtain ⟨E, hE⟩ := hrow2.deeds
  have HD := Lib.hid hD
  have HE := Lib.hid hE
  have HZ := Lib.hid hz
  obtain ⟨N, hN⟩ : ∃ N, w.heap.size = N := ⟨_, rfl⟩
  have HB0 := Lib.hid ((Fr.start w).alloc (.cells #[.int .i64 dk, .int .i64 dn, .string dnm, .string dto] 27)).bel
  have c0 : (w.alloc (.cells #[.int .i64 dk, .int .i64 dn, .string dnm, .string dto] 27)).cell? ⟨N, 0, .none⟩ = some (.int .i64 dk) := by
    have := cell_new w #[.int .i64 dk, .int .i64 dn, .string dnm, .string dto] 27 0
    rw [Nat.zero_add, hN] at this; rw [this]; rfl
  have c1 : (w.alloc (.cells #[.int .i64 dk, .int .i64 dn, .string dnm, .string dto] 27)).cell? ⟨N, 1, .none⟩ = some (.int .i64 dn) := by
    have := cell_new w #[.int .i64 dk, .int .i64 dn, .string dnm, .string dto] 27 1
    rw [Nat.zero_add, hN] at this; rw [this]; rfl
  have c2 : (w.alloc (.cells #[.int .i64 dk, .int .i64 dn, .string dnm, .string dto] 27)).cell? ⟨N, 2, .none⟩ = some (.string dnm) := by
    have := cell_new w #[.int .i64 dk, .int .i64 dn, .string dnm, .string dto] 27 2
    rw [Nat.zero_add, hN] at this; rw [this]; rfl
  have c3 : (w.alloc (.cells #[.int .i64 dk, .int .i64 dn, .string dnm, .string dto] 27)).cell? ⟨N, 3, .none⟩ = some (.string dto) := by
    have := cell_new w #[.int .i64 dk, .int .i64 dn, .string dnm, .string dto] 27 3
    rw [Nat.zero_add, hN] at this; rw [this]; rfl
  have hlt : N < (w.alloc (.cells #[.int .i64 dk, .int .i64 dn, .string dnm, .string dto] 27)).heap.size := by simp [hN]
  have HCC : Hid (∀ w', Below (w.alloc (.cells #[.int .i64 dk, .int .i64 dn, .string dnm, .string dto] 27)).heap.size (w.alloc (.cells #[.int .i64 dk, .int .i64 dn, .string dnm, .string dto] 27)) w' →
      w'.cell? ⟨N, 0, .none⟩ = some (.int .i64 dk) ∧ w'.cell? ⟨N, 1, .none⟩ = some (.int .i64 dn) ∧ w'.cell? ⟨N, 2, .none⟩ = some (.string dnm) ∧ w'.cell? ⟨N, 3, .none⟩ = some (.string dto)) := Lib.hid fun w' hB =>
    ⟨(hB.cell (p := ⟨N, 0, .none⟩) hlt).trans c0, (hB.cell (p := ⟨N, 1, .none⟩) hlt).trans c1, (hB.cell (p := ⟨N, 2, .none⟩) hlt).trans c2, (hB.cell (p := ⟨N, 3, .none⟩) hlt).trans c3⟩
  have HAT := Lib.hid (hallsOk (w.alloc (.cells #[.int .i64 dk, .int .i64 dn, .string dnm, .string dto] 27)))
  clear hrow hD hrow2 hE hz c0 c1 c2 c3 hlt
  go_enter Try.func5, Try.ntmps5
  go_wp2_with fail
  refine HAT.out.mono ?_; rintro e w1 ⟨rfl, hb1⟩
  have HB1 := Lib.hid (kin_trans HB0.out hb1)
  have HBB1 := Lib.hid hb1
  clear hb1 HAT
  go_wp2_with fail
  refine (workedOk D n a cap w1 (HD.out.below HB1.out) (by omega)).mono ?_; rintro e w2 ⟨H, rfl, hw2⟩
  have HW2 := Lib.hid hw2
  clear hw2
  go_wp2_with fail
  refine (workedOk D n a cap w2 (HD.out.below (kin_trans HB1.out HW2.out.below)) (by omega)).mono ?_; rintro e w3 ⟨G, rfl, hw3⟩
  have hok := runD_ok D ⟨[], []⟩ 0 (hok0 0)
  rw [HD.out.len, Nat.zero_add] at hok
  have hh : Hw2 w1 w3 G H (runD D ⟨[], []⟩) (runD D ⟨[], []⟩) [] := by
    obtain ⟨am, cm, al, cl, h1⟩ := HW2.out
    obtain ⟨am', cm', al', cl', h2⟩ := hw3
    exact ⟨am, cm, al, cl, am', cm', al', cl', h1.callG h2⟩
  have hh := hh.swap
  generalize runD D ⟨[], []⟩ = s at *
  have HW3 := Lib.hid hh
  have HOK := Lib.hid hok
  obtain ⟨e0, e1, e2, e3⟩ := HCC.out w3 (kin_trans HBB1.out hh.below)
  have HC3 := Lib.hid (halDo2h H G s s [] n dk dn dnm dto hh hok (by omega) HZ.out)
  clear hh hw3 hok HW2 HD
  go_wp2_with fail
  refine HC3.out.mono ?_; rintro e w4 ⟨rfl, hw4⟩
  have HR := Lib.hid (fun he => doS_refused (s := s) (k := dk) (n := dn) (nm := dnm) (to := dto) he)
  generalize doS s dk dn dnm dto = r at *
  obtain ⟨s1, nm1, n1, er1⟩ := r
  have HW4 := Lib.hid ((hw4.keep ((Fr.start w4).alloc (.cells #[.string nm1, .int .i64 n1] 32)).bel))
  clear hw4 HC3 HW3
  by_cases he : er1 = 0
  · subst he
    go_wp2_with fail
    go_ret
    exact ⟨rfl, kin_trans HB1.out HW4.out.below⟩
  · have z : (er1 == 0) = false := by rw [beq_eq_false_iff_ne]; exact he
    have hs1 : s1 = s := HR.out he
    subst hs1
    clear HR
    go_wp2_with fail
    go_loopw [39] (fun q wr => ∃ (k : Nat) (t : HSt), k ≤ m ∧ q = .int .i64 k ∧ Hid (Hw2 w1 wr H G t t []) ∧ Hid (HOk t (n + k))) (fun q _ => m - (intOf q).toNat)
    case atStart => exact ⟨0, s1, by omega, rfl, HW4, HOK⟩
    case round =>
      obtain ⟨k, t, hk, rfl, HW, HO⟩ := hrel
      by_cases hlt : k < m
      · obtain ⟨d, hd⟩ : ∃ d, E[k]? = some d := ⟨_, List.getElem?_eq_getElem (by rw [HE.out.len]; exact hlt)⟩
        obtain ⟨b', off, rfl, -, x1, x2, x3, x4⟩ := ((HE.out.below HB1.out).sa.keep HW.out.below).deedA k d hd
        obtain ⟨N5, hN5⟩ : ∃ N, wr.heap.size = N := ⟨_, rfl⟩
        have HA := Lib.hid (HW.out.newDeed d.k d.n d.nm d.to hN5)
        have HNZ := Lib.hid (HE.out.nm d (List.mem_of_getElem? hd))
        have HC5 := Lib.hid (halDo2h H G t t _ (n + k) d.k d.n d.nm d.to HA.out HO.out (by omega) HNZ.out)
        have HOK' := Lib.hid (doS_ok HO.out d.k d.n d.nm d.to)
        have d1 : (0 : Int) ≤ (k : Int) := by omega
        have d2 : (k : Int) < (m : Int) := by omega
        clear hd HW
        go_wp2_with fail
        refine HC5.out.mono ?_; rintro e w5 ⟨rfl, hw5⟩
        obtain ⟨N6, hN6⟩ : ∃ N, w5.heap.size = N := ⟨_, rfl⟩
        have HW5 := Lib.hid (hw5.newTold (doS t d.k d.n d.nm d.to).nm (doS t d.k d.n d.nm d.to).n hN6)
        obtain ⟨e0, e1, e2, e3, -⟩ := HW5.out.deed (N := N5) (k := d.k) (n := d.n) (nm := d.nm) (to := d.to) (by simp)
        have HC6 := Lib.hid (halDo2h G H t _ _ (n + k) d.k d.n d.nm d.to HW5.out.swap HO.out (by omega) HNZ.out)
        clear hw5 HC5 HA x1 x2 x3 x4
        generalize doS t d.k d.n d.nm d.to = r at *
        obtain ⟨t1, nm2, n2, er2⟩ := r
        simp only at HW5 HC6 HOK' e0 e1 e2 e3 ⊢
        go_wp2_with fail
        refine HC6.out.mono ?_; rintro e w6 ⟨rfl, hw6⟩
        obtain ⟨N7, hN7⟩ : ∃ N, w6.heap.size = N := ⟨_, rfl⟩
        have HW6 := Lib.hid (hw6.newTold nm2 n2 hN7)
        obtain ⟨p0, p1, -, -⟩ := HW6.out.told (N := N7) (nm := nm2) (n := n2) (by simp)
        obtain ⟨p2, p3, -, -⟩ := HW6.out.told (N := N6) (nm := nm2) (n := n2) (by simp)
        have g5 : (nm2.toList == nm2.toList) = true := beq_self_eq_true _
        have g6 : (n2 == n2) = true := beq_self_eq_true _
        have g7 : (er2 == er2) = true := beq_self_eq_true _
        clear hw6 HC6 HW5
        go_wp2_with fail
        refine ⟨⟨k + 1, t1, by omega, by simp, Lib.hid (HW6.out.swap.sub (List.nil_sublist _)), Lib.hid (by rw [← Nat.add_assoc]; exact HOK'.out)⟩, by simp only [intOf]; omega⟩
      · obtain rfl : k = m := by omega
        have HWx := Lib.hid HW.out
        obtain ⟨ax1, ax2, ax3, ax4, hx⟩ := HW.out
        have HN1 := Lib.hid (halNmW hx HO.out.l8)
        clear hx HW
        go_wp2_with fail
        refine HN1.out.mono ?_; rintro e w5 ⟨ad, cp, rfl, hcp, hf5, -⟩
        have HW5 := Lib.hid (HWx.out.keep hf5.bel)
        have HS5 := Lib.hid (hf5.get 0 rfl)
        obtain ⟨ay1, ay2, ay3, ay4, hy⟩ := HW5.out.swap
        have HN2 := Lib.hid (halNmW hy HO.out.l8)
        clear hy hf5 HN1
        go_wp2_with fail
        refine HN2.out.mono ?_; rintro e w6 ⟨ad2, cp2, rfl, hcp2, hf6, -⟩
        have HW6 := Lib.hid (HW5.out.keep hf6.bel)
        have HS6 := Lib.hid (hf6.get 0 rfl)
        have HS5' := Lib.hid (HS5.out.keep hf6.bel)
        have h8 := HO.out.l8
        clear hf6 HN2
        go_wp2_with fail
        refine (slEqS (nmsM t.M) (nmsM t.M) t.M.length t.M.length _ _ _ _ w6 HS5'.out HS6.out (by unfold nmsM; rw [List.length_map]) (by unfold nmsM; rw [List.length_map]) (by unfold maxLen; omega) (by unfold maxLen; omega)).mono ?_; rintro e w7 ⟨rfl, hf7⟩
        rw [show decide (nmsM t.M = nmsM t.M) = true from decide_eq_true rfl]
        have HW7 := Lib.hid (HW6.out.keep hf7.bel)
        clear hf7
        go_wp2_with fail
        go_ret
        exact ⟨rfl, kin_trans HB1.out HW7.out.below⟩
end Go.Proofs.Ytfompfaepabpgaa
