/- Several of my texts in one: HalD, Hal15. -/
import Derived.Test.YtjplnkkcmkpkbaaMA40
import Derived.Test.YtjplnkkcmkpkbaaMA32
import Derived.Test.YtjplnkkcmkpkbaaMA34
set_option linter.unusedSimpArgs false
set_option linter.unusedVariables false
/- A deed in a hall, in plain words; the boxes of Do. -/
namespace Go.Proofs.Ytjplnkkcmkpkbaa
open Go.RowKit

/-- what a deed leaves, and what is told: a name, a number, an error -/
structure DR where
  s : HSt
  nm : ByteArray
  n : Int
  er : Int
def wonS (s : HSt) (r : Int × Int) : DR :=
  if r.2 = 0 then (match s.M[r.1.toNat]? with | some m => ⟨setW s r.1.toNat ⟨m.nm, m.tk, m.wn + 1⟩, m.nm, m.wn + 1, 0⟩ | none => ⟨s, ⟨#[]⟩, 0, 0⟩) else ⟨s, ⟨#[]⟩, 0, r.2⟩
def atSH (s : HSt) (k n : Int) (nm to : ByteArray) (i : Nat) (m : Mem) : DR :=
  if k = 2 then ⟨leaveW s i m, ⟨#[]⟩, 0, leaveE s m⟩
  else if k = 3 then ⟨lendW s i n nm to, ⟨#[]⟩, 0, lendE s i n to⟩
  else if k = 4 then ⟨⟨(backA nm s).M, (backA nm s).L⟩, nm, (backA nm s).t, 0⟩
  else ⟨s, nm, m.wn, 0⟩
def doS (s : HSt) (k n : Int) (nm to : ByteArray) : DR :=
  if k = 5 then wonS s (winW (tksL s.M) n)
  else if k = 7 then wonS s (nextW (tksL s.M) (wnsL s.M))
  else if k = 1 ∨ k = 2 ∨ k = 3 ∨ k = 4 ∨ k = 6 then
    if namedB nm = false then ⟨s, ⟨#[]⟩, 0, 3⟩
    else if k = 1 then ⟨joinW s (fiV nm s.M) n nm, ⟨#[]⟩, 0, joinE s (fiV nm s.M) n⟩
    else match s.M[findM nm s.M]? with
      | some m => atSH s k n nm to (findM nm s.M) m
      | none => ⟨s, ⟨#[]⟩, 0, 4⟩
  else ⟨s, ⟨#[]⟩, 0, 1⟩
/-- what stands after K deeds -/
structure HOk (s : HSt) (K : Nat) : Prop where
  tk : TkOk (tksL s.M)
  wn : ∀ m ∈ s.M, 0 ≤ m.wn ∧ m.wn ≤ K
  ln : ∀ l ∈ s.L, LnOk s.M l
  ll : s.L.length ≤ K
  nd : (nmsM s.M).Nodup
theorem winL_lt' : ∀ (l : List Int) (lot : Int), 0 ≤ lot → lot < isum l → winL l lot < l.length
  | [], lot, h1, h2 => by simp [isum] at h2; omega
  | x :: r, lot, h1, h2 => by
    rw [winL]; rw [isum] at h2
    by_cases hx : x ≤ lot
    · rw [if_pos hx, List.length_cons]; have := winL_lt' r (lot - x) (by omega) (by omega); omega
    · rw [if_neg hx, List.length_cons]; omega
theorem winW_at (l : List Int) (lot : Int) (h : (winW l lot).2 = 0) : 0 ≤ (winW l lot).1 ∧ (winW l lot).1.toNat < l.length := by
  unfold winW at h ⊢
  split at h
  · cases h
  · split at h
    · cases h
    · rename_i h1 h2
      rw [if_neg h1, if_neg h2]
      have := winL_lt' l lot (by omega) (by omega)
      simp only
      omega
theorem nextW_at (l had : List Int) (h : (nextW l had).2 = 0) : 0 ≤ (nextW l had).1 ∧ (nextW l had).1.toNat < l.length := by
  unfold nextW at h ⊢
  split at h
  · cases h
  · split at h
    · cases h
    · rename_i h1 h2
      rw [if_neg h1, if_neg h2]
      have := bestL_lt l had l.length
      simp only
      omega
theorem Hw.fg {w0 w : World} {H : Nat} {s : HSt} {B : List Big} (h : Hw w0 w H s B) : ∃ am cm al cl, Fg w0 w (hallE H am cm al cl s B) := h
theorem Hw.deed {w0 w : World} {H : Nat} {s : HSt} {B : List Big} (h : Hw w0 w H s B) {N : Nat} {k n : Int} {nm to : ByteArray} (he : eD N k n nm to ∈ B) :
    w.cell? ⟨N, 0, .none⟩ = some (.int .i64 k) ∧ w.cell? ⟨N, 1, .none⟩ = some (.int .i64 n) ∧ w.cell? ⟨N, 2, .none⟩ = some (.string nm) ∧ w.cell? ⟨N, 3, .none⟩ = some (.string to) ∧ N < w.heap.size := by
  obtain ⟨am, cm, al, cl, hf⟩ := h
  exact hf.deed (by simp [hallE, he])
theorem Fg.told {w0 w : World} {B : List Big} (h : Fg w0 w B) {N : Nat} {nm : ByteArray} {n : Int} (he : eT N nm n ∈ B) :
    w.cell? ⟨N, 0, .none⟩ = some (.string nm) ∧ w.cell? ⟨N, 1, .none⟩ = some (.int .i64 n) ∧ w.frozen? ⟨N, 0, .none⟩ = false ∧ w.frozen? ⟨N, 1, .none⟩ = false := by
  obtain ⟨g, e, _, h1, h2, h3⟩ := h.open he (by show 0 < 2; omega)
  cases e
  exact ⟨h2 0 (by show 0 < 2; omega), h2 1 (by show 1 < 2; omega), h3 0, h3 1⟩
theorem Hw.told {w0 w : World} {H : Nat} {s : HSt} {B : List Big} (h : Hw w0 w H s B) {N : Nat} {nm : ByteArray} {n : Int} (he : eT N nm n ∈ B) :
    w.cell? ⟨N, 0, .none⟩ = some (.string nm) ∧ w.cell? ⟨N, 1, .none⟩ = some (.int .i64 n) ∧ w.frozen? ⟨N, 0, .none⟩ = false ∧ w.frozen? ⟨N, 1, .none⟩ = false := by
  obtain ⟨am, cm, al, cl, hf⟩ := h
  exact hf.told (by simp [hallE, he])
theorem Hw.hall {w0 w : World} {H : Nat} {s : HSt} {B : List Big} (h : Hw w0 w H s B) : ∃ am cm, w.cell? ⟨H, 0, .none⟩ = some (.slice am s.M.length cm) ∧ Sa w am (rowsC memC s.M) ∧ H < w.heap.size := by
  obtain ⟨am, cm, al, cl, hf⟩ := h
  obtain ⟨c0, -, hHl, -, -⟩ := hf.hall (H := H) (vm := .slice am s.M.length cm) (vl := .slice al s.L.length cl) (by simp [hallE])
  exact ⟨am, cm, c0, hf.sa (T := 90) (c := 3) (n := s.M.length) (cap := cm) (ad := am) (xs := rowsC memC s.M) (by simp [hallE, eM]), hHl⟩
theorem Hw.perm {w0 w : World} {H : Nat} {s : HSt} {B C : List Big} (h : Hw w0 w H s B) (p : B.Perm C) : Hw w0 w H s C := by
  obtain ⟨am, cm, al, cl, hf⟩ := h
  exact ⟨am, cm, al, cl, hf.perm (.cons _ (.cons _ (.cons _ p)))⟩
theorem Hw.sub {w0 w : World} {H : Nat} {s : HSt} {B C : List Big} (h : Hw w0 w H s B) (p : C.Sublist B) : Hw w0 w H s C := by
  obtain ⟨am, cm, al, cl, hf⟩ := h
  exact ⟨am, cm, al, cl, hf.sub (.cons_cons _ (.cons_cons _ (.cons_cons _ p)))⟩
theorem Hw.drew {w0 w : World} {H : Nat} {s : HSt} {B : List Big} (h : Hw w0 w H s B) : Hw w0 w.drew H s B := by
  obtain ⟨am, cm, al, cl, hf⟩ := h
  exact ⟨am, cm, al, cl, hf.drew⟩
/-- an element beside the hall, told to be the first -/
theorem Hw.out {w0 w : World} {H : Nat} {s : HSt} {e : Big} {B : List Big} (h : Hw w0 w H s (e :: B)) : ∃ am cm al cl, Fg w0 w (e :: hallE H am cm al cl s B) := by
  obtain ⟨am, cm, al, cl, hf⟩ := h
  exact ⟨am, cm, al, cl, hf.perm (List.perm_middle (a := e) (l₁ := [_, _, _]) (l₂ := B))⟩
theorem Hw.into {w0 w : World} {H : Nat} {s : HSt} {e : Big} {B : List Big} {am al : Option Addr} {cm cl : Nat} (h : Fg w0 w (e :: hallE H am cm al cl s B)) : Hw w0 w H s (e :: B) :=
  ⟨am, cm, al, cl, h.perm (List.perm_middle (a := e) (l₁ := [_, _, _]) (l₂ := B)).symm⟩
theorem Hw.call {w0 w w' : World} {H : Nat} {s : HSt} {B : List Big} {L : List Ent} (h : Hw w0 w H s B) (b : Fr w w' L) : Hw w0 w' H s (L.map Ent.big ++ B) := by
  obtain ⟨am, cm, al, cl, hf⟩ := h
  refine ⟨am, cm, al, cl, (hf.call b).perm ?_⟩
  exact (List.perm_append_comm_assoc (L.map Ent.big) [_, _, _] B)
theorem Hw.setTold {w0 w : World} {H : Nat} {s : HSt} {N : Nat} {nm nm' : ByteArray} {n n' : Int} {B : List Big} (h : Hw w0 w H s (eT N nm n :: B)) :
    Hw w0 ((w.setCell ⟨N, 0, none⟩ (.string nm')).setCell ⟨N, 1, none⟩ (.int .i64 n')) H s (eT N nm' n' :: B) := by
  obtain ⟨am, cm, al, cl, hf⟩ := h.out
  exact Hw.into ((hf.set 0 (.string nm')).set 1 (.int .i64 n'))
theorem doBox {w0 w : World} {H : Nat} {s : HSt} {B : List Big} (h : Hw w0 w H s B) (k n : Int) (nm to : ByteArray) {N : Nat} (hN : w.heap.size = N) :
    Hw w0 (((w.alloc (.cells #[.int .i64 k, .int .i64 n, .string nm, .string to] 28)).alloc (.cells #[.string ⟨#[]⟩, .int .i64 0] 35)).alloc (.cells #[.string ⟨#[]⟩, .int .i64 0] 35)) H s
      (eT (N + 1) ⟨#[]⟩ 0 :: eT (N + 2) ⟨#[]⟩ 0 :: eD N k n nm to :: B) := by
  obtain ⟨am, cm, al, cl, hf⟩ := h
  have b1 := hf.new 28 #[.int .i64 k, .int .i64 n, .string nm, .string to] [.int .i64 k, .int .i64 n, .string nm, .string to] rfl N hN 4 rfl (by omega)
  have b2 := b1.new 35 #[.string ⟨#[]⟩, .int .i64 0] [.string ⟨#[]⟩, .int .i64 0] rfl (N + 1) (by simp [hN]) 2 rfl (by omega)
  have b3 := b2.new 35 #[.string ⟨#[]⟩, .int .i64 0] [.string ⟨#[]⟩, .int .i64 0] rfl (N + 2) (by simp [hN]) 2 rfl (by omega)
  have b4 : Fg w0 _ ([eT (N + 2) ⟨#[]⟩ 0, eT (N + 1) ⟨#[]⟩ 0, eD N k n nm to] ++ ([eH H (.slice am s.M.length cm) (.slice al s.L.length cl), eM am cm s.M, eL al cl s.L] ++ B)) := b3
  exact Hw.perm ⟨am, cm, al, cl, b4.perm (List.perm_append_comm_assoc _ _ _)⟩ (.swap _ _ _)
end Go.Proofs.Ytjplnkkcmkpkbaa
/- Do: draw. -/
namespace Go.Proofs.Ytjplnkkcmkpkbaa
open Go.RowKit

set_option maxRecDepth 100000 in
set_option maxHeartbeats 8000000 in
theorem halDo5y {w0 w : World} (H : Nat) (s : HSt) (B : List Big) (n : Int) (nm to : ByteArray) (h : Hw w0 w H s B) (h8 : TkOk (tksL s.M)) (i : Nat) (m : Mem) (hp : winW (tksL s.M) n = ((i : Int), 0)) (hm : s.M[i]? = some m) (hwn : 0 ≤ m.wn ∧ m.wn < 9223372036854775807) :
    Calls Try.prog 28 #[.pointer (some ⟨H, 0, .none⟩), .agg #[.int .i64 5, .int .i64 n, .string nm, .string to]] w (ToldW w0 H (setW s i ⟨m.nm, m.tk, m.wn + 1⟩) B m.nm (m.wn + 1) 0) := by
  obtain ⟨N, hN⟩ : ∃ N, w.heap.size = N := ⟨_, rfl⟩
  have HB := Lib.hid (doBox h 5 n nm to hN)
  obtain ⟨e0, e1, e2, e3, -⟩ := HB.out.deed (N := N) (k := 5) (n := n) (nm := nm) (to := to) (by simp)
  obtain ⟨t0, t1, tz0, tz1⟩ := HB.out.told (N := N + 1) (nm := ⟨#[]⟩) (n := 0) (by simp)
  obtain ⟨u0, u1, -, -⟩ := HB.out.told (N := N + 2) (nm := ⟨#[]⟩) (n := 0) (by simp)
  clear h
  have hl8 : s.M.length ≤ 8 := by have := h8.1; rw [tksL_len] at this; exact this
  go_enter Try.func28, Try.ntmps28
  go_wp2_with fail
  generalize hW : (((w.alloc (.cells #[.int .i64 5, .int .i64 n, .string nm, .string to] 28)).alloc (.cells #[.string ⟨#[]⟩, .int .i64 0] 35)).alloc (.cells #[.string ⟨#[]⟩, .int .i64 0] 35)) = W at *
  obtain ⟨am, cm, c0, hS, hHl⟩ := HB.out.hall
  have HKS : Hid (∀ w', Below W.drew.heap.size W.drew w' → w'.cell? ⟨N, 1, .none⟩ = some (.int .i64 n)) := Lib.hid fun w' hB => (hB.cell (p := ⟨N, 1, .none⟩) (by show N < W.heap.size; exact (HB.out.deed (N := N) (k := 5) (n := n) (nm := nm) (to := to) (by simp)).2.2.2.2)).trans e1
  refine wp_region_U [5] (fun w' : World => w'.cell? ⟨N, 1, .none⟩ = some (.int .i64 n)) (by kernel_rfl) ?_
  have hSd : (fun w' : World => w'.cell? ⟨N, 1, .none⟩ = some (.int .i64 n)) W.drew := e1
  refine wpAnyU_takeY (i := 0) (v := ?_) rfl (by kernel_rfl) (by kernel_rfl) (by kernel_rfl) (by kernel_rfl) (fun _ _ _ h => h) (Or.inl ⟨by rfl, ?_⟩) (by assumption) ?_
  rotate_left
  · intro w _; go_simp; try with_reducible rfl
  try simp only [Act.put]
  try simp only [List.setIfInBounds_toArray]
  try simp only [List.set_cons_succ]
  try simp only [List.set_cons_zero]
  refine wpAnyU_takeY (i := 1) (v := ?_) rfl (by kernel_rfl) (by kernel_rfl) (by kernel_rfl) (by kernel_rfl) (fun _ _ _ h => h) (Or.inl ⟨by rfl, ?_⟩) (by assumption) ?_
  rotate_left
  · intro w _; go_simp; try with_reducible rfl
  try simp only [Act.put]
  try simp only [List.setIfInBounds_toArray]
  try simp only [List.set_cons_succ]
  try simp only [List.set_cons_zero]
  refine wpAnyU_takeY (i := 3) (v := ?_) rfl (by kernel_rfl) (by kernel_rfl) (by kernel_rfl) (by kernel_rfl) (fun _ _ _ h => h) (Or.inl ⟨by rfl, ?_⟩) (by assumption) ?_
  rotate_left
  · intro w _; go_simp; try with_reducible rfl
  try simp only [Act.put]
  try simp only [List.setIfInBounds_toArray]
  try simp only [List.set_cons_succ]
  try simp only [List.set_cons_zero]
  refine wpAnyU_take (i := 4) (v := ?_) rfl (by kernel_rfl) (by kernel_rfl) (by kernel_rfl) (by kernel_rfl) (by kernel_rfl) (by kernel_rfl) (fun _ _ _ h => h) (Or.inl ⟨by rfl, ?_⟩) (by assumption) ?_
  rotate_left
  · intro w hSw; obtain s1 := hSw; go_simp; try with_reducible rfl
  try simp only [Act.put]
  try simp only [List.setIfInBounds_toArray]
  try simp only [List.set_cons_succ]
  try simp only [List.set_cons_zero]
  refine wpAnyU_ready (rs := [2]) (by kernel_rfl) (by simp) ?_
  refine AllReadyU.cons rfl (fun K hK => ?_) AllReadyU.nil
  go_simp
  refine (halTickets s.M s.M.length am cm H W.drew hS rfl (by omega) c0).mono ?_; rintro e w3 ⟨ad, cp, rfl, hcp, hf3⟩
  have HB3 := Lib.hid (HB.out.drew.call hf3)
  have HS3 := Lib.hid (hf3.get 0 rfl)
  have HBL3 := Lib.hid hf3.bel
  clear hf3
  refine hK.out _ _ (fun _ => HKS.out _ HBL3.out) ?_
  clear hK K
  try simp only [Act.put]
  try simp only [List.setIfInBounds_toArray]
  try simp only [List.set_cons_succ]
  try simp only [List.set_cons_zero]
  refine wpAnyU_ready (rs := [5]) (by kernel_rfl) (by simp) ?_
  refine AllReadyU.cons rfl (fun K hK => ?_) AllReadyU.nil
  go_simp
  refine (lotWinAny (tksL s.M) s.M.length ad cp n w3 HS3.out (tksL_len _) h8).mono ?_; rintro e w4 ⟨rfl, hw4⟩
  subst hw4
  rw [hp]
  refine hK.out _ _ (fun h => absurd h (by decide +kernel)) ?_
  clear hK K
  refine wpAnyU_takeW (i := 6) (v := ?_) rfl (by kernel_rfl) (by kernel_rfl) (by kernel_rfl) (by kernel_rfl) (fun _ _ _ h => h) (Or.inl ⟨by rfl, ?_⟩) ?_
  rotate_left
  · intro w _; go_simp; try with_reducible rfl
  try simp only [Act.put]
  try simp only [List.setIfInBounds_toArray]
  try simp only [List.set_cons_succ]
  try simp only [List.set_cons_zero]
  refine wpAnyU_takeW (i := 7) (v := ?_) rfl (by kernel_rfl) (by kernel_rfl) (by kernel_rfl) (by kernel_rfl) (fun _ _ _ h => h) (Or.inl ⟨by rfl, ?_⟩) ?_
  rotate_left
  · intro w _; go_simp; try with_reducible rfl
  try simp only [Act.put]
  try simp only [List.setIfInBounds_toArray]
  try simp only [List.set_cons_succ]
  try simp only [List.set_cons_zero]
  refine wpAnyU_ready (rs := [8]) (by kernel_rfl) (by simp) ?_
  refine AllReadyU.cons rfl (fun K hK => ?_) AllReadyU.nil
  go_simp
  refine (halWon H s _ i m HB3.out hm hwn).mono ?_; rintro e w5 ⟨rfl, hw5⟩
  have HW5 := Lib.hid hw5
  clear hw5
  obtain ⟨x0, x1, xz0, xz1⟩ := HW5.out.told (N := N + 1) (nm := ⟨#[]⟩) (n := 0) (by simp)
  refine hK.out _ _ (fun h => absurd h (by decide +kernel)) ?_
  clear hK K
  try simp only [Act.put]
  try simp only [List.setIfInBounds_toArray]
  try simp only [List.set_cons_succ]
  try simp only [List.set_cons_zero]
  refine wpAnyU_takeW (i := 9) (v := ?_) rfl (by kernel_rfl) (by kernel_rfl) (by kernel_rfl) (by kernel_rfl) (fun _ _ _ h => h) (Or.inl ⟨by rfl, ?_⟩) ?_
  rotate_left
  · intro w _; go_simp; try with_reducible rfl
  try simp only [Act.put]
  try simp only [List.setIfInBounds_toArray]
  try simp only [List.set_cons_succ]
  try simp only [List.set_cons_zero]
  refine wpAnyU_takeW (i := 10) (v := ?_) rfl (by kernel_rfl) (by kernel_rfl) (by kernel_rfl) (by kernel_rfl) (fun _ _ _ h => h) (Or.inl ⟨by rfl, ?_⟩) ?_
  rotate_left
  · intro w _; go_simp; try with_reducible rfl
  try simp only [Act.put]
  try simp only [List.setIfInBounds_toArray]
  try simp only [List.set_cons_succ]
  try simp only [List.set_cons_zero]
  refine wpAnyU_ready (rs := [11]) (by kernel_rfl) (by simp) ?_
  refine AllReadyU.cons rfl (fun K hK => ?_) AllReadyU.nil
  go_simp
  refine hK.out _ _ (fun h => absurd h (by decide +kernel)) ?_
  clear hK K
  try simp only [Act.put]
  try simp only [List.setIfInBounds_toArray]
  try simp only [List.set_cons_succ]
  try simp only [List.set_cons_zero]
  refine wpAnyU_ready (rs := [12]) (by kernel_rfl) (by simp) ?_
  refine AllReadyU.cons rfl (fun K hK => ?_) AllReadyU.nil
  go_simp
  refine hK.out _ _ (fun h => absurd h (by decide +kernel)) ?_
  clear hK K
  try simp only [Act.put]
  try simp only [List.setIfInBounds_toArray]
  try simp only [List.set_cons_succ]
  try simp only [List.set_cons_zero]
  refine wpAnyU_done (by kernel_rfl) ?_ _
  go_wp2_with fail
  have hw6 := HW5.out.perm (List.Perm.swap _ _ _)
  have h3 := Hw.setTold (nm' := m.nm) (n' := (m.wn + 1)) hw6
  generalize (World.setCell (w5) ⟨N + 1, 0, none⟩ (.string m.nm)).setCell ⟨N + 1, 1, none⟩ (.int .i64 (m.wn + 1)) = WF at h3 ⊢
  obtain ⟨q0, q1, -, -⟩ := h3.told (N := N + 1) (nm := m.nm) (n := (m.wn + 1)) List.mem_cons_self
  have h4 : ToldW w0 H (setW s i ⟨m.nm, m.tk, m.wn + 1⟩) B m.nm (m.wn + 1) 0 (.returned (.tuple #[.agg #[.string m.nm, .int .i64 (m.wn + 1)], .int .i64 0])) WF := ⟨rfl, h3.sub (List.sublist_append_right [_, _, _, _] B)⟩
  refine bodyPost_ret (v := .tuple #[.agg #[.string m.nm, .int .i64 (m.wn + 1)], .int .i64 0]) ?_ ?_ ?_
  rotate_left
  · rfl
  · exact h4
  simp [results, Try.results28, go_sem, q0, q1]
set_option maxRecDepth 100000 in
set_option maxHeartbeats 8000000 in
theorem halDo5n {w0 w : World} (H : Nat) (s : HSt) (B : List Big) (n : Int) (nm to : ByteArray) (h : Hw w0 w H s B) (h8 : TkOk (tksL s.M)) (q er : Int) (hp : winW (tksL s.M) n = (q, er)) (he : er ≠ 0) :
    Calls Try.prog 28 #[.pointer (some ⟨H, 0, .none⟩), .agg #[.int .i64 5, .int .i64 n, .string nm, .string to]] w (ToldW w0 H s B ⟨#[]⟩ 0 er) := by
  obtain ⟨N, hN⟩ : ∃ N, w.heap.size = N := ⟨_, rfl⟩
  have HB := Lib.hid (doBox h 5 n nm to hN)
  obtain ⟨e0, e1, e2, e3, -⟩ := HB.out.deed (N := N) (k := 5) (n := n) (nm := nm) (to := to) (by simp)
  obtain ⟨t0, t1, tz0, tz1⟩ := HB.out.told (N := N + 1) (nm := ⟨#[]⟩) (n := 0) (by simp)
  obtain ⟨u0, u1, -, -⟩ := HB.out.told (N := N + 2) (nm := ⟨#[]⟩) (n := 0) (by simp)
  clear h
  have hl8 : s.M.length ≤ 8 := by have := h8.1; rw [tksL_len] at this; exact this
  go_enter Try.func28, Try.ntmps28
  go_wp2_with fail
  generalize hW : (((w.alloc (.cells #[.int .i64 5, .int .i64 n, .string nm, .string to] 28)).alloc (.cells #[.string ⟨#[]⟩, .int .i64 0] 35)).alloc (.cells #[.string ⟨#[]⟩, .int .i64 0] 35)) = W at *
  obtain ⟨am, cm, c0, hS, hHl⟩ := HB.out.hall
  have HKS : Hid (∀ w', Below W.drew.heap.size W.drew w' → w'.cell? ⟨N, 1, .none⟩ = some (.int .i64 n)) := Lib.hid fun w' hB => (hB.cell (p := ⟨N, 1, .none⟩) (by show N < W.heap.size; exact (HB.out.deed (N := N) (k := 5) (n := n) (nm := nm) (to := to) (by simp)).2.2.2.2)).trans e1
  refine wp_region_U [5] (fun w' : World => w'.cell? ⟨N, 1, .none⟩ = some (.int .i64 n)) (by kernel_rfl) ?_
  have hSd : (fun w' : World => w'.cell? ⟨N, 1, .none⟩ = some (.int .i64 n)) W.drew := e1
  refine wpAnyU_takeY (i := 0) (v := ?_) rfl (by kernel_rfl) (by kernel_rfl) (by kernel_rfl) (by kernel_rfl) (fun _ _ _ h => h) (Or.inl ⟨by rfl, ?_⟩) (by assumption) ?_
  rotate_left
  · intro w _; go_simp; try with_reducible rfl
  try simp only [Act.put]
  try simp only [List.setIfInBounds_toArray]
  try simp only [List.set_cons_succ]
  try simp only [List.set_cons_zero]
  refine wpAnyU_takeY (i := 1) (v := ?_) rfl (by kernel_rfl) (by kernel_rfl) (by kernel_rfl) (by kernel_rfl) (fun _ _ _ h => h) (Or.inl ⟨by rfl, ?_⟩) (by assumption) ?_
  rotate_left
  · intro w _; go_simp; try with_reducible rfl
  try simp only [Act.put]
  try simp only [List.setIfInBounds_toArray]
  try simp only [List.set_cons_succ]
  try simp only [List.set_cons_zero]
  refine wpAnyU_takeY (i := 3) (v := ?_) rfl (by kernel_rfl) (by kernel_rfl) (by kernel_rfl) (by kernel_rfl) (fun _ _ _ h => h) (Or.inl ⟨by rfl, ?_⟩) (by assumption) ?_
  rotate_left
  · intro w _; go_simp; try with_reducible rfl
  try simp only [Act.put]
  try simp only [List.setIfInBounds_toArray]
  try simp only [List.set_cons_succ]
  try simp only [List.set_cons_zero]
  refine wpAnyU_take (i := 4) (v := ?_) rfl (by kernel_rfl) (by kernel_rfl) (by kernel_rfl) (by kernel_rfl) (by kernel_rfl) (by kernel_rfl) (fun _ _ _ h => h) (Or.inl ⟨by rfl, ?_⟩) (by assumption) ?_
  rotate_left
  · intro w hSw; obtain s1 := hSw; go_simp; try with_reducible rfl
  try simp only [Act.put]
  try simp only [List.setIfInBounds_toArray]
  try simp only [List.set_cons_succ]
  try simp only [List.set_cons_zero]
  refine wpAnyU_ready (rs := [2]) (by kernel_rfl) (by simp) ?_
  refine AllReadyU.cons rfl (fun K hK => ?_) AllReadyU.nil
  go_simp
  refine (halTickets s.M s.M.length am cm H W.drew hS rfl (by omega) c0).mono ?_; rintro e w3 ⟨ad, cp, rfl, hcp, hf3⟩
  have HB3 := Lib.hid (HB.out.drew.call hf3)
  have HS3 := Lib.hid (hf3.get 0 rfl)
  have HBL3 := Lib.hid hf3.bel
  clear hf3
  refine hK.out _ _ (fun _ => HKS.out _ HBL3.out) ?_
  clear hK K
  try simp only [Act.put]
  try simp only [List.setIfInBounds_toArray]
  try simp only [List.set_cons_succ]
  try simp only [List.set_cons_zero]
  refine wpAnyU_ready (rs := [5]) (by kernel_rfl) (by simp) ?_
  refine AllReadyU.cons rfl (fun K hK => ?_) AllReadyU.nil
  go_simp
  refine (lotWinAny (tksL s.M) s.M.length ad cp n w3 HS3.out (tksL_len _) h8).mono ?_; rintro e w4 ⟨rfl, hw4⟩
  subst hw4
  rw [hp]
  refine hK.out _ _ (fun h => absurd h (by decide +kernel)) ?_
  clear hK K
  refine wpAnyU_takeW (i := 6) (v := ?_) rfl (by kernel_rfl) (by kernel_rfl) (by kernel_rfl) (by kernel_rfl) (fun _ _ _ h => h) (Or.inl ⟨by rfl, ?_⟩) ?_
  rotate_left
  · intro w _; go_simp; try with_reducible rfl
  try simp only [Act.put]
  try simp only [List.setIfInBounds_toArray]
  try simp only [List.set_cons_succ]
  try simp only [List.set_cons_zero]
  refine wpAnyU_takeW (i := 7) (v := ?_) rfl (by kernel_rfl) (by kernel_rfl) (by kernel_rfl) (by kernel_rfl) (fun _ _ _ h => h) (Or.inl ⟨by rfl, ?_⟩) ?_
  rotate_left
  · intro w _; go_simp; try with_reducible rfl
  try simp only [Act.put]
  try simp only [List.setIfInBounds_toArray]
  try simp only [List.set_cons_succ]
  try simp only [List.set_cons_zero]
  refine wpAnyU_ready (rs := [8]) (by kernel_rfl) (by simp) ?_
  refine AllReadyU.cons rfl (fun K hK => ?_) AllReadyU.nil
  go_simp
  refine (halWonE H s _ q er HB3.out he).mono ?_; rintro e w5 ⟨rfl, hw5⟩
  have HW5 := Lib.hid hw5
  clear hw5
  obtain ⟨x0, x1, xz0, xz1⟩ := HW5.out.told (N := N + 1) (nm := ⟨#[]⟩) (n := 0) (by simp)
  refine hK.out _ _ (fun h => absurd h (by decide +kernel)) ?_
  clear hK K
  try simp only [Act.put]
  try simp only [List.setIfInBounds_toArray]
  try simp only [List.set_cons_succ]
  try simp only [List.set_cons_zero]
  refine wpAnyU_takeW (i := 9) (v := ?_) rfl (by kernel_rfl) (by kernel_rfl) (by kernel_rfl) (by kernel_rfl) (fun _ _ _ h => h) (Or.inl ⟨by rfl, ?_⟩) ?_
  rotate_left
  · intro w _; go_simp; try with_reducible rfl
  try simp only [Act.put]
  try simp only [List.setIfInBounds_toArray]
  try simp only [List.set_cons_succ]
  try simp only [List.set_cons_zero]
  refine wpAnyU_takeW (i := 10) (v := ?_) rfl (by kernel_rfl) (by kernel_rfl) (by kernel_rfl) (by kernel_rfl) (fun _ _ _ h => h) (Or.inl ⟨by rfl, ?_⟩) ?_
  rotate_left
  · intro w _; go_simp; try with_reducible rfl
  try simp only [Act.put]
  try simp only [List.setIfInBounds_toArray]
  try simp only [List.set_cons_succ]
  try simp only [List.set_cons_zero]
  refine wpAnyU_ready (rs := [11]) (by kernel_rfl) (by simp) ?_
  refine AllReadyU.cons rfl (fun K hK => ?_) AllReadyU.nil
  go_simp
  refine hK.out _ _ (fun h => absurd h (by decide +kernel)) ?_
  clear hK K
  try simp only [Act.put]
  try simp only [List.setIfInBounds_toArray]
  try simp only [List.set_cons_succ]
  try simp only [List.set_cons_zero]
  refine wpAnyU_ready (rs := [12]) (by kernel_rfl) (by simp) ?_
  refine AllReadyU.cons rfl (fun K hK => ?_) AllReadyU.nil
  go_simp
  refine hK.out _ _ (fun h => absurd h (by decide +kernel)) ?_
  clear hK K
  try simp only [Act.put]
  try simp only [List.setIfInBounds_toArray]
  try simp only [List.set_cons_succ]
  try simp only [List.set_cons_zero]
  refine wpAnyU_done (by kernel_rfl) ?_ _
  go_wp2_with fail
  have hw6 := HW5.out.perm (List.Perm.swap _ _ _)
  have h3 := Hw.setTold (nm' := ⟨#[]⟩) (n' := 0) hw6
  generalize (World.setCell (w5) ⟨N + 1, 0, none⟩ (.string ⟨#[]⟩)).setCell ⟨N + 1, 1, none⟩ (.int .i64 0) = WF at h3 ⊢
  obtain ⟨q0, q1, -, -⟩ := h3.told (N := N + 1) (nm := ⟨#[]⟩) (n := 0) List.mem_cons_self
  have h4 : ToldW w0 H s B ⟨#[]⟩ 0 er (.returned (.tuple #[.agg #[.string ⟨#[]⟩, .int .i64 0], .int .i64 er])) WF := ⟨rfl, h3.sub (List.sublist_append_right [_, _, _, _] B)⟩
  refine bodyPost_ret (v := .tuple #[.agg #[.string ⟨#[]⟩, .int .i64 0], .int .i64 er]) ?_ ?_ ?_
  rotate_left
  · rfl
  · exact h4
  simp [results, Try.results28, go_sem, q0, q1]
end Go.Proofs.Ytjplnkkcmkpkbaa
