/- castkeep.halls, worked, ticketsOf; hall.New. -/
import Derived.Test.YtfompfaepabpgaaHalK
import Derived.Test.YtfompfaepabpgaaSlEqS
import Derived.Test.YtfompfaepabpgaaGoodL
namespace Go.Proofs.Ytfompfaepabpgaa
open Go.RowKit

theorem nmsL_strV (M : List Mem) : nmsL M = strV (nmsM M) := by unfold nmsL strV nmsM; rw [List.map_map]; rfl
def NewW (w : World) (e : Ending) (w' : World) : Prop := ∃ H, e = .returned (.pointer (some ⟨H, 0, .none⟩)) ∧ Hw w w' H ⟨[], []⟩ []
set_option maxRecDepth 100000 in
theorem halNew (w : World) : Calls Try.prog 13 #[] w (NewW w) := by
  have b1 := (Fg.start w).new 87 #[.slice none 0 0, .slice none 0 0] [.slice none 0 0, .slice none 0 0] rfl w.heap.size rfl 2 rfl (by omega)
  have b2 := (b1.nilSlice 130 3).nilSlice 90 3
  have HB : Hid (Hw w (w.alloc (.cells #[.slice none 0 0, .slice none 0 0] 87)) w.heap.size ⟨[], []⟩ []) := Lib.hid ⟨none, 0, none, 0, b2.perm ((List.Perm.cons _ (.swap _ _ _)).trans (.swap _ _ _))⟩
  clear b1 b2
  go_enter Try.func13, Try.ntmps13
  go_wp2_with fail
  go_ret
  exact ⟨_, rfl, HB.out⟩
theorem hok0 (K : Nat) : HOk ⟨[], []⟩ K := by
  refine ⟨⟨?_, fun k hk => ?_⟩, fun m hm => ?_, fun l hl => ?_, Nat.zero_le _, List.nodup_nil⟩
  · exact Nat.zero_le _
  · exact absurd hk (Nat.not_lt_zero k)
  · cases hm
  · cases hl
theorem Hw.below {w0 w : World} {H : Nat} {s : HSt} {B : List Big} (h : Hw w0 w H s B) : Below w0.heap.size w0 w := by
  obtain ⟨am, cm, al, cl, hf⟩ := h
  exact hf.bel
theorem Hw.alloc {w0 w : World} {H : Nat} {s : HSt} {B : List Big} (h : Hw w0 w H s B) (o : Obj) : Hw w0 (w.alloc o) H s B := h.keep ((Fr.start w).alloc o).bel
theorem Hw.newTold {w0 w : World} {H : Nat} {s : HSt} {B : List Big} (h : Hw w0 w H s B) (nm : ByteArray) (n : Int) {N : Nat} (hN : w.heap.size = N) : Hw w0 (w.alloc (.cells #[.string nm, .int .i64 n] 32)) H s (eT N nm n :: B) := by
  obtain ⟨am, cm, al, cl, hf⟩ := h
  exact Hw.into (hf.new 32 #[.string nm, .int .i64 n] [.string nm, .int .i64 n] rfl N hN 2 rfl (by omega))
def aS : ByteArray := ⟨#[97]⟩
theorem do1 : doS ⟨[], []⟩ 1 2 ⟨#[97]⟩ ⟨#[]⟩ = ⟨⟨[⟨⟨#[97]⟩, 2, 0⟩], []⟩, ⟨#[]⟩, 0, 0⟩ := by kernel_rfl
theorem do2 : doS ⟨[⟨⟨#[97]⟩, 2, 0⟩], []⟩ 5 1 ⟨#[]⟩ ⟨#[]⟩ = ⟨⟨[⟨⟨#[97]⟩, 2, 1⟩], []⟩, ⟨#[97]⟩, 1, 0⟩ := by kernel_rfl
theorem halTkW {w0 w : World} {H : Nat} {s : HSt} {B : List Big} (h : Hw w0 w H s B) (h8 : s.M.length ≤ 8) (nm : ByteArray) :
    Calls Try.prog 14 #[.pointer (some ⟨H, 0, .none⟩), .string nm] w fun e w' => e = .returned (.tuple #[.int .i64 ((tkOf nm s.M).getD 0), .int .i64 (if (tkOf nm s.M).isSome then 0 else 4)]) ∧ Hw w0 w' H s B := by
  obtain ⟨am, cm, c0, hS, hHl⟩ := h.hall
  refine (halTk s.M s.M.length am cm nm H w hS rfl (by omega) c0 hHl).mono ?_
  rintro e w' ⟨⟨t, e0, rfl, hx⟩, hf⟩
  refine ⟨?_, h.keep hf.bel⟩
  rcases hx with ⟨h1, rfl⟩ | ⟨h1, rfl, rfl⟩
  · rw [h1]; rfl
  · rw [h1]; rfl
theorem halNmW {w0 w : World} {H : Nat} {s : HSt} {B : List Big} (h : Hw w0 w H s B) (h8 : s.M.length ≤ 8) :
    Calls Try.prog 20 #[.pointer (some ⟨H, 0, .none⟩)] w fun e w' => ∃ ad cp, e = .returned (.slice ad s.M.length cp) ∧ s.M.length ≤ cp ∧ Fr w w' [⟨9, .slice ad s.M.length cp, strV (nmsM s.M)⟩] ∧ Hw w0 w' H s B := by
  obtain ⟨am, cm, c0, hS, hHl⟩ := h.hall
  refine (halNames s.M s.M.length am cm H w hS rfl (by omega) c0).mono ?_
  rintro e w' ⟨ad, cp, rfl, hc, hf⟩
  rw [nmsL_strV] at hf
  exact ⟨ad, cp, rfl, hc, hf, h.keep hf.bel⟩
set_option maxRecDepth 100000 in
set_option maxHeartbeats 8000000 in
theorem hallsOk (w : World) : Calls Try.prog 12 #[] w fun e w' => e = .returned (.bool true) ∧ Below w.heap.size w w' := by
  go_enter Try.func12, Try.ntmps12
  go_wp2_with fail
  refine (halNew w).mono ?_; rintro e w1 ⟨H, rfl, hw⟩
  have HW := Lib.hid hw
  clear hw
  go_wp2_with fail
  refine (halDo H _ [] 0 1 2 ⟨#[97]⟩ ⟨#[]⟩ HW.out (hok0 0) (by omega) (by decide)).mono ?_
  rw [do1]
  rintro e w2 ⟨rfl, hw2⟩
  obtain ⟨N2, hN2⟩ : ∃ N, w2.heap.size = N := ⟨_, rfl⟩
  have HW2 := Lib.hid (Hw.newTold hw2 ⟨#[]⟩ 0 hN2)
  have hok1 := doS_ok (hok0 0) 1 2 ⟨#[97]⟩ ⟨#[]⟩
  rw [do1] at hok1
  clear hw2 HW
  go_wp2_with fail
  refine (halDo H _ _ 1 5 1 ⟨#[]⟩ ⟨#[]⟩ HW2.out hok1 (by omega) (by decide)).mono ?_
  rw [do2]
  rintro e w3 ⟨rfl, hw3⟩
  obtain ⟨N3, hN3⟩ : ∃ N, w3.heap.size = N := ⟨_, rfl⟩
  have HW3 := Lib.hid (Hw.newTold hw3 ⟨#[97]⟩ 1 hN3)
  clear hw3 HW2
  go_wp2_with fail
  refine (halTkW HW3.out (by decide) ⟨#[97]⟩).mono ?_; rintro e w4 ⟨rfl, hw4⟩
  have e4 : (tkOf ⟨#[97]⟩ [(⟨⟨#[97]⟩, 2, 1⟩ : Mem)]) = some 2 := by kernel_rfl
  rw [e4]
  have HW4 := Lib.hid hw4
  clear hw4 HW3
  go_wp2_with fail
  refine (good_list [0, 0, 0] w4 w4.heap.size _ rfl #[.int .i64 0, .int .i64 0, .int .i64 0] rfl 3 rfl (by omega)).mono ?_; rintro e w5 ⟨rfl, hw5⟩
  have HW5 : Hid (Hw w w5 H _ _) := Lib.hid (hw5 ▸ HW4.out.alloc (.cells #[.int .i64 0, .int .i64 0, .int .i64 0] 28))
  obtain ⟨c0, c1, -, -⟩ := HW5.out.told (N := N3) (nm := ⟨#[97]⟩) (n := 1) (by simp)
  clear hw5 HW4
  go_wp2_with fail
  refine (halNmW HW5.out (by decide)).mono ?_; rintro e w6 ⟨ad, cp, rfl, hcp, hf6, hw6⟩
  have HS6 := Lib.hid ((hf6.alloc (.cells #[.string ⟨#[97]⟩] 9)).get 0 rfl)
  have HA6 := Lib.hid ((hf6.new 9 #[.string ⟨#[97]⟩] (strV [⟨#[97]⟩]) rfl 1 rfl (by omega)).get 0 rfl)
  have HB6 := Lib.hid (hw6.alloc (.cells #[.string ⟨#[97]⟩] 9))
  clear hf6 hw6 HW5
  go_wp2_with fail
  refine (slEqS _ [⟨#[97]⟩] 1 1 _ _ _ _ _ HS6.out HA6.out rfl rfl (by decide) (by decide)).mono ?_; rintro e w7 ⟨rfl, hf7⟩
  rw [show decide (nmsM [(⟨⟨#[97]⟩, 2, 1⟩ : Mem)] = [⟨#[97]⟩]) = true from decide_eq_true rfl]
  have HB7 := Lib.hid (HB6.out.keep hf7.bel)
  clear hf7
  go_wp2_with fail
  go_ret
  exact ⟨rfl, HB7.out.below⟩
structure Deed where
  k : Int
  n : Int
  nm : ByteArray
  to : ByteArray
def deedC (d : Deed) : List Value := [.int .i64 d.k, .int .i64 d.n, .string d.nm, .string d.to]
def doD (s : HSt) (d : Deed) : DR := doS s d.k d.n d.nm d.to
def runD (D : List Deed) (s : HSt) : HSt := D.foldl (fun s d => (doD s d).s) s
theorem runD_take {D : List Deed} {k : Nat} {d : Deed} (h : D[k]? = some d) (s : HSt) : runD (D.take (k + 1)) s = (doD (runD (D.take k) s) d).s := by
  unfold runD
  rw [List.take_add_one, h, List.foldl_append]; rfl
theorem runD_ok (D : List Deed) : ∀ (s : HSt) (K : Nat), HOk s K → HOk (runD D s) (K + D.length) := by
  induction D with
  | nil => intro s K h; exact h
  | cons d D ih =>
    intro s K h
    have := ih _ _ (doS_ok h d.k d.n d.nm d.to)
    show HOk (runD D (doD s d).s) _
    rw [List.length_cons, show K + (D.length + 1) = K + 1 + D.length by omega]
    exact this
theorem Sa.deedA {w : World} {a : Option Addr} {l : List Deed} (h : Sa w a (rowsC deedC l)) (i : Nat) (m : Deed) (hi : l[i]? = some m) : ∃ b off, a = some ⟨b, off, none⟩ ∧ b < w.heap.size ∧
    w.cell? ⟨b, off + i * 4, none⟩ = some (.int .i64 m.k) ∧ w.cell? ⟨b, off + i * 4 + 1, none⟩ = some (.int .i64 m.n) ∧ w.cell? ⟨b, off + i * 4 + 2, none⟩ = some (.string m.nm) ∧ w.cell? ⟨b, off + i * 4 + 3, none⟩ = some (.string m.to) := by
  have hl : i < l.length := (List.getElem?_eq_some_iff.1 hi).1
  have hlen := rowsC_len (f := deedC) (c := 4) (fun _ => rfl) l
  obtain ⟨b, off, e, hb, hc⟩ := h (by rw [hlen]; omega)
  have key : ∀ j, j < 4 → w.cell? ⟨b, off + i * 4 + j, none⟩ = (deedC m)[j]? := fun j hj => by
    rw [Nat.add_assoc, hc (i * 4 + j) (by rw [hlen]; omega), rowsC_get (f := deedC) (c := 4) (fun _ => rfl) l i j m hi hj]
  exact ⟨b, off, e, hb, key 0 (by omega), key 1 (by omega), key 2 (by omega), key 3 (by omega)⟩
/-- deeds that came in -/
structure Deeds (w : World) (a : Option Addr) (n : Nat) (D : List Deed) : Prop where
  len : D.length = n
  sa : Sa w a (rowsC deedC D)
  nm : ∀ d ∈ D, d.nm.size ≤ maxLen
theorem Deeds.below {w w' : World} {a : Option Addr} {n : Nat} {D : List Deed} (h : Deeds w a n D) (b : Below w.heap.size w w') : Deeds w' a n D := ⟨h.len, h.sa.keep b, h.nm⟩
set_option maxRecDepth 100000 in
set_option maxHeartbeats 8000000 in
theorem workedOk (D : List Deed) (n : Nat) (a : Option Addr) (cap : Nat) (w : World) (h : Deeds w a n D) (hb : (n + 1) * 40 ≤ 140737488355328) :
    Calls Try.prog 17 #[.slice a n cap] w fun e w' => ∃ H, e = .returned (.pointer (some ⟨H, 0, .none⟩)) ∧ Hw w w' H (runD D ⟨[], []⟩) [] := by
  have HD := Lib.hid h
  clear h
  go_enter Try.func17, Try.ntmps17
  go_wp2_with fail
  refine (halNew w).mono ?_; rintro e w1 ⟨H, rfl, hw1⟩
  have HW1 := Lib.hid hw1
  clear hw1
  go_wp2_with fail
  go_loopw [11] (fun q wr => ∃ k : Nat, k ≤ n ∧ q = .int .i64 k ∧ Hid (Hw w wr H (runD (D.take k) ⟨[], []⟩) [])) (fun q _ => n - (intOf q).toNat)
  case atStart => exact ⟨0, by omega, rfl, HW1⟩
  case round =>
    obtain ⟨k, hk, rfl, HW⟩ := hrel
    by_cases hlt : k < n
    · obtain ⟨d, hd⟩ : ∃ d, D[k]? = some d := ⟨_, List.getElem?_eq_getElem (by rw [HD.out.len]; exact hlt)⟩
      obtain ⟨b, off, rfl, -, x1, x2, x3, x4⟩ := (HD.out.sa.keep HW.out.below).deedA k d hd
      have HA := Lib.hid (HW.out.alloc (.cells #[.int .i64 d.k, .int .i64 d.n, .string d.nm, .string d.to] 27))
      have hok := runD_ok (D.take k) ⟨[], []⟩ 0 (hok0 0)
      rw [List.length_take, HD.out.len, Nat.min_eq_left hk, Nat.zero_add] at hok
      have HC := Lib.hid (halDo H _ [] k d.k d.n d.nm d.to HA.out hok (by omega) (HD.out.nm d (List.mem_of_getElem? hd)))
      have HT := Lib.hid (runD_take hd ⟨[], []⟩)
      have d1 : (0 : Int) ≤ (k : Int) := by omega
      have d2 : (k : Int) < (n : Int) := by omega
      clear hok hd
      go_wp2_with fail
      refine HC.out.mono ?_; rintro e w2 ⟨rfl, hw2⟩
      have HW2 := Lib.hid hw2
      clear hw2
      go_wp2_with fail
      refine ⟨⟨k + 1, by omega, by simp, ?_⟩, by simp only [intOf]; omega⟩
      rw [HT.out]
      exact HW2
    · obtain rfl : k = n := by omega
      go_wp2_with fail
      go_ret
      refine ⟨H, rfl, ?_⟩
      have := HW.out
      rw [List.take_of_length_le (by rw [HD.out.len]; exact Nat.le_refl _)] at this
      exact this
end Go.Proofs.Ytfompfaepabpgaa
