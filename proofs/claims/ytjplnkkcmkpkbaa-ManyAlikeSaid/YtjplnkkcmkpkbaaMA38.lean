/- Several of my texts in one: Hal8, Hal9, Hal10. -/
import Derived.Test.YtjplnkkcmkpkbaaMA37
import Derived.Test.YtjplnkkcmkpkbaaMA34
import Derived.RegionTactic
import Derived.Deep.RegionWith
set_option linter.unusedSimpArgs false
set_option linter.unusedVariables false
/- Contract of leave. -/
namespace Go.Proofs.Ytjplnkkcmkpkbaa
open Go.RowKit

def leaveE (s : HSt) (m : Mem) : Int := if anyT m.nm s.L then 7 else 0
def leaveW (s : HSt) (i : Nat) (m : Mem) : HSt := if anyT m.nm s.L then s else ⟨s.M.eraseIdx i, s.L⟩
set_option maxRecDepth 100000 in
set_option maxHeartbeats 8000000 in
theorem halLeave {w0 w : World} (H : Nat) (s : HSt) (B : List Big) (i : Nat) (m : Mem) (h : Hw w0 w H s B) (hi : s.M[i]? = some m) (h8 : s.M.length ≤ 1000) (hL : s.L.length ≤ maxLen) :
    Calls Try.prog 45 #[.pointer (some ⟨H, 0, .none⟩), .int .i64 i] w (ErrW w0 H (leaveW s i m) B (leaveE s m)) := by
  obtain ⟨am, cm, al, cl, hf⟩ := h
  have hlt : i < s.M.length := (List.getElem?_eq_some_iff.1 hi).1
  obtain ⟨c0, -, -, -, -⟩ := hf.hall (H := H) (vm := .slice am s.M.length cm) (vl := .slice al s.L.length cl) (by simp [hallE])
  obtain ⟨g, rfl, -, x1, -, -, -⟩ := hf.mem3 (ad := am) (cap := cm) (M := s.M) (by simp [hallE]) i _ hi
  have hcm := hf.cap (T := 90) (c := 3) (n := s.M.length) (cap := cm) (ad := some ⟨g, 0, .none⟩) (xs := rowsC memC s.M) (List.mem_cons_of_mem _ List.mem_cons_self)
  have hf1 := hf.alloc (.cells #[.string m.nm] 9)
  obtain ⟨c0', c1', -, -, -⟩ := hf1.hall (H := H) (vm := .slice (some ⟨g, 0, .none⟩) s.M.length cm) (vl := .slice al s.L.length cl) (by simp [hallE])
  have hS := hf1.sa (T := 106) (c := 3) (n := s.L.length) (cap := cl) (ad := al) (xs := rowsC loanC s.L) (List.mem_cons_of_mem _ (List.mem_cons_of_mem _ List.mem_cons_self))
  have HCL := Lib.hid (hasLoan s.L s.L.length al cl m.nm w.heap.size (w.alloc (.cells #[.string m.nm] 9)) hS rfl hL (by have := cell_new w #[.string m.nm] 9 0; rw [Nat.zero_add] at this; rw [this]; rfl) (by simp))
  have HF1 := Lib.hid hf1
  obtain ⟨n, hn⟩ : ∃ n, s.M.length = n := ⟨_, rfl⟩
  have HN := Lib.hid hn
  have d1 : (0 : Int) ≤ (i : Int) := by omega
  have d2 : (i : Int) < (s.M.length : Int) := by omega
  clear hf hf1 hS hi hn
  go_enter Try.func45, Try.ntmps45
  go_wp2_with fail
  refine HCL.out.mono ?_; rintro e w2 ⟨rfl, hf2⟩
  have HF2 := Lib.hid (HF1.out.keep hf2.bel)
  clear hf2 HF1 HCL c0 c0' c1' x1
  cases ha : anyT m.nm s.L
  · have e1 : leaveE s m = 0 := by unfold leaveE; rw [ha]; rfl
    have e2 : leaveW s i m = ⟨s.M.eraseIdx i, s.L⟩ := by unfold leaveW; rw [ha]; rfl
    obtain ⟨c0, -, -, -, -⟩ := HF2.out.hall (H := H) (vm := .slice (some ⟨g, 0, .none⟩) s.M.length cm) (vl := .slice al s.L.length cl) (by simp [hallE])
    have HD := Lib.hid (delMem s.M g cm i s.M.length (eH H (.slice (some ⟨g, 0, .none⟩) s.M.length cm) (.slice al s.L.length cl) :: eL al cl s.L :: B) (HF2.out.perm (.swap _ _ _)) rfl hlt hcm)
    have E1 := Lib.hid e1; have E2 := Lib.hid e2
    clear e1 e2 ha
    go_wp2_with fail
    refine HD.out.mono ?_; rintro e w3 ⟨rfl, hf3⟩
    obtain ⟨q0, -, -, f0, -⟩ := hf3.hall (H := H) (vm := .slice (some ⟨g, 0, .none⟩) s.M.length cm) (vl := .slice al s.L.length cl) (by simp)
    have HF3 := Lib.hid hf3
    clear hf3 HF2 HD c0
    go_wp2_with fail
    go_ret
    unfold ErrW
    rw [E1.out, E2.out]
    refine ⟨rfl, some ⟨g, 0, .none⟩, cm, al, cl, ?_⟩
    have h5 : Fg w0 w3 ([eM (some ⟨g, 0, .none⟩) cm (s.M.eraseIdx i)] ++ eH H (.slice (some ⟨g, 0, .none⟩) s.M.length cm) (.slice al s.L.length cl) :: (eL al cl s.L :: B)) := HF3.out
    have h6 := h5.setIn 0 (.slice (some ⟨g, 0, .none⟩) (s.M.length - 1) cm)
    unfold hallE
    simp only [List.length_eraseIdx_of_lt hlt]
    exact h6.perm (.swap _ _ _)
  · have e1 : leaveE s m = 7 := by unfold leaveE; rw [ha]; rfl
    have e2 : leaveW s i m = s := by unfold leaveW; rw [ha]; rfl
    have E1 := Lib.hid e1; have E2 := Lib.hid e2
    clear e1 e2 ha
    go_wp2_with fail
    go_ret
    unfold ErrW
    rw [E1.out, E2.out]
    exact ⟨rfl, _, _, _, _, HF2.out⟩
end Go.Proofs.Ytjplnkkcmkpkbaa
/- Contract of won with an error. -/
namespace Go.Proofs.Ytjplnkkcmkpkbaa
open Go.RowKit

set_option maxRecDepth 100000 in
set_option maxHeartbeats 8000000 in
theorem halWonE {w0 w : World} (H : Nat) (s : HSt) (B : List Big) (i er : Int) (h : Hw w0 w H s B) (he : er ≠ 0) :
    Calls Try.prog 38 #[.pointer (some ⟨H, 0, .none⟩), .int .i64 i, .int .i64 er] w (ToldW w0 H s B ⟨#[]⟩ 0 er) := by
  obtain ⟨am, cm, al, cl, hf⟩ := h
  have hf1 := hf.new 35 #[.string ⟨#[]⟩, .int .i64 0] [.string ⟨#[]⟩, .int .i64 0] rfl w.heap.size rfl 2 rfl (by omega)
  obtain ⟨N, hN⟩ : ∃ N, w.heap.size = N := ⟨_, rfl⟩
  rw [hN] at hf1
  obtain ⟨gt, e, -, -, t1, t2⟩ := hf1.open (T := 35) (c := 1) (n := 2) (cap := 2) (ad := some ⟨N, 0, none⟩) (xs := [.string ⟨#[]⟩, .int .i64 0]) List.mem_cons_self (by simp)
  cases e
  have c0 := t1 0 (by simp)
  have c1 := t1 1 (by simp)
  have f0 := t2 0
  have f1 := t2 1
  simp at c0 c1
  have z : (er != 0) = true := by rw [bne_iff_ne]; exact he
  have HF1 := Lib.hid hf1
  clear hf hf1 t1 t2
  go_enter Try.func38, Try.ntmps38
  go_wp2_with fail
  have h4 : ToldW w0 H s B ⟨#[]⟩ 0 er (.returned (.tuple #[.agg #[.string ⟨#[]⟩, .int .i64 0], .int .i64 er])) (w.alloc (.cells #[.string ⟨#[]⟩, .int .i64 0] 35)) := ⟨rfl, am, cm, al, cl, HF1.out.tail⟩
  refine bodyPost_ret (v := .tuple #[.agg #[.string ⟨#[]⟩, .int .i64 0], .int .i64 er]) ?_ ?_ ?_
  rotate_left
  · rfl
  · exact h4
  simp [results, Try.results38, go_sem, c0, c1]
end Go.Proofs.Ytjplnkkcmkpkbaa
/- Contract of lend. -/
namespace Go.Proofs.Ytjplnkkcmkpkbaa
open Go.RowKit

/-- so many tickets more -/
def bumpM (M : List Mem) (i : Nat) (x : Int) : List Mem := match M[i]? with | some m => M.set i ⟨m.nm, m.tk + x, m.wn⟩ | none => M
def lendE (s : HSt) (i : Nat) (n : Int) (to : ByteArray) : Int :=
  if s.M.length ≤ findM to s.M then 4 else if findM to s.M = i ∨ n < 1 then 1 else if nth (tksL s.M) i < n then 4 else if 100 < nth (tksL s.M) (findM to s.M) + n then 9 else 0
def lendW (s : HSt) (i : Nat) (n : Int) (nm to : ByteArray) : HSt :=
  if lendE s i n to = 0 then ⟨bumpM (bumpM s.M i (-n)) (findM to s.M) n, s.L ++ [⟨nm, to, n⟩]⟩ else s
theorem bumpM_len (M : List Mem) (i : Nat) (x : Int) : (bumpM M i x).length = M.length := by unfold bumpM; split <;> simp
theorem bumpM_at {M : List Mem} {i : Nat} {m : Mem} (h : M[i]? = some m) (x : Int) : bumpM M i x = M.set i ⟨m.nm, m.tk + x, m.wn⟩ := by unfold bumpM; rw [h]
theorem tksL_nth {M : List Mem} {i : Nat} {m : Mem} (h : M[i]? = some m) : nth (tksL M) i = m.tk := by
  unfold nth tksL
  rw [List.getD_eq_getElem?_getD, List.getElem?_map, h]; rfl
def eD (N : Nat) (k n : Int) (nm to : ByteArray) : Big := ⟨28, 1, 4, .slice (some ⟨N, 0, none⟩) 4 4, [.int .i64 k, .int .i64 n, .string nm, .string to]⟩
theorem Fg.deed {w0 w : World} {B : List Big} (h : Fg w0 w B) {N : Nat} {k n : Int} {nm to : ByteArray} (he : eD N k n nm to ∈ B) :
    w.cell? ⟨N, 0, .none⟩ = some (.int .i64 k) ∧ w.cell? ⟨N, 1, .none⟩ = some (.int .i64 n) ∧ w.cell? ⟨N, 2, .none⟩ = some (.string nm) ∧ w.cell? ⟨N, 3, .none⟩ = some (.string to) ∧ N < w.heap.size := by
  obtain ⟨g, e, _, h1, h2, h3⟩ := h.open he (by show 0 < 4; omega)
  cases e
  exact ⟨h2 0 (by show 0 < 4; omega), h2 1 (by show 1 < 4; omega), h2 2 (by show 2 < 4; omega), h2 3 (by show 3 < 4; omega), h1⟩

theorem nth_set_ne (l : List Int) (i j : Nat) (v : Int) (h : i ≠ j) : nth (l.set i v) j = nth l j := by
  unfold nth; rw [List.getD_eq_getElem?_getD, List.getD_eq_getElem?_getD, List.getElem?_set_ne h]
theorem lendE_val (s : HSt) (i : Nat) (n : Int) (to : ByteArray) (hi : i < s.M.length) (hj : findM to s.M < s.M.length) (h1 : findM to s.M ≠ i) (hn : 1 ≤ n) :
    (lendE s i n to = 0 → LendOk (tksL s.M) i (findM to s.M) n i (findM to s.M)) ∧ (lendE s i n to ≠ 0 → (¬ ∃ f' t', LendOk (tksL s.M) i (findM to s.M) n f' t') ∧ lendErr (tksL s.M) i (findM to s.M) n = lendE s i n to) := by
  have hl := tksL_len s.M
  unfold lendE
  rw [if_neg (by omega), if_neg (by rintro (h | h) <;> omega)]
  by_cases a : nth (tksL s.M) i < n
  · rw [if_pos a]
    refine ⟨fun h => absurd h (by decide), fun _ => ⟨?_, ?_⟩⟩
    · rintro ⟨f', t', e1, e2, -, -, -, h5, -⟩
      have : f' = i := by omega
      subst this; omega
    · unfold lendErr
      rw [if_neg (by omega), Int.toNat_natCast, if_pos a]
  · rw [if_neg a]
    have e : nth ((tksL s.M).set i (nth (tksL s.M) i - n)) (findM to s.M) = nth (tksL s.M) (findM to s.M) := nth_set_ne _ _ _ _ (fun h => h1 h.symm)
    by_cases b : 100 < nth (tksL s.M) (findM to s.M) + n
    · rw [if_pos b]
      refine ⟨fun h => absurd h (by decide), fun _ => ⟨?_, ?_⟩⟩
      · rintro ⟨f', t', e1, e2, -, -, -, -, h6⟩
        have : f' = i := by omega
        have : t' = findM to s.M := by omega
        subst f' t'; rw [e] at h6; omega
      · unfold lendErr
        rw [if_neg (by omega), Int.toNat_natCast, if_neg a]
    · rw [if_neg b]
      exact ⟨fun _ => ⟨rfl, rfl, by omega, by omega, by omega, by omega, by rw [e]; omega⟩, fun h => absurd rfl h⟩
set_option maxRecDepth 100000 in
set_option maxHeartbeats 8000000 in
theorem halLend_no {w0 w : World} (H : Nat) (s : HSt) (B : List Big) (i : Nat) (k n : Int) (nm to : ByteArray) (h : Hw w0 w H s B) (hi : i < s.M.length) (h8 : TkOk (tksL s.M)) (hE : lendE s i n to ≠ 0) :
    Calls Try.prog 46 #[.pointer (some ⟨H, 0, .none⟩), .int .i64 i, .agg #[.int .i64 k, .int .i64 n, .string nm, .string to]] w (ErrW w0 H s B (lendE s i n to)) := by
  obtain ⟨am, cm, al, cl, hf⟩ := h
  have hl8 : s.M.length ≤ 8 := by have := h8.1; rw [tksL_len] at this; exact this
  have hf1 := hf.new 28 #[.int .i64 k, .int .i64 n, .string nm, .string to] [.int .i64 k, .int .i64 n, .string nm, .string to] rfl w.heap.size rfl 4 rfl (by omega)
  obtain ⟨N, hN⟩ : ∃ N, w.heap.size = N := ⟨_, rfl⟩
  rw [hN] at hf1
  have hf1 : Fg w0 _ (eD N k n nm to :: hallE H am cm al cl s B) := hf1
  obtain ⟨e0, e1, e2, e3, -⟩ := hf1.deed List.mem_cons_self
  obtain ⟨c0, -, hHl, -, -⟩ := hf1.hall (H := H) (vm := .slice am s.M.length cm) (vl := .slice al s.L.length cl) (by simp [hallE])
  have hS := hf1.sa (T := 90) (c := 3) (n := s.M.length) (cap := cm) (ad := am) (xs := rowsC memC s.M) (by simp [hallE, eM])
  have HF1 := Lib.hid hf1
  have HCF := Lib.hid (halFind s.M s.M.length am cm to H _ hS rfl (by omega) c0 hHl)
  have HE := Lib.hid hE
  have HI := Lib.hid hi
  have H8 := Lib.hid h8
  have HL8 := Lib.hid hl8
  clear hf hf1 hS h8 hE
  go_enter Try.func46, Try.ntmps46
  go_wp2_with fail
  refine HCF.out.mono ?_; rintro e w2 ⟨rfl, hf2⟩
  have HF2 := Lib.hid (HF1.out.keep hf2.bel)
  obtain ⟨e0', e1', e2', e3', -⟩ := HF2.out.deed List.mem_cons_self
  clear hf2 HF1 HCF c0 e0 e1 e2 e3
  obtain ⟨j, hj⟩ : ∃ j, findM to s.M = j := ⟨_, rfl⟩
  by_cases hlt : j < s.M.length
  · have hfi : fiV to s.M = (j : Int) := by unfold fiV; rw [hj, if_pos hlt]
    rw [hfi]
    have d3 : decide ((j : Int) < 0) = false := decide_eq_false (by omega)
    by_cases hij : j = i
    · have EV : Hid (lendE s i n to = 1) := Lib.hid (by unfold lendE; rw [hj, if_neg (by omega), if_pos (.inl hij)])
      have q1 : ((j : Int) == (i : Int)) = true := by rw [hij]; exact beq_self_eq_true _
      clear hfi hj
      go_wp2_with fail
      go_ret
      exact ⟨by rw [EV.out]; rfl, am, cm, al, cl, HF2.out.tail⟩
    · have q1 : ((j : Int) == (i : Int)) = false := by rw [beq_eq_false_iff_ne]; omega
      by_cases hn : n < 1
      · have EV : Hid (lendE s i n to = 1) := Lib.hid (by unfold lendE; rw [hj, if_neg (by omega), if_pos (.inr hn)])
        have d4 : decide (n < 1) = true := decide_eq_true hn
        clear hfi hj
        go_wp2_with fail
        go_ret
        exact ⟨by rw [EV.out]; rfl, am, cm, al, cl, HF2.out.tail⟩
      · have d4 : decide (n < 1) = false := decide_eq_false hn
        have HV := Lib.hid ((lendE_val s i n to HI.out (by rw [hj]; exact hlt) (by rw [hj]; exact hij) (by omega)).2 HE.out)
        rw [hj] at HV
        obtain ⟨er, her⟩ : ∃ er, lendE s i n to = er := ⟨_, rfl⟩
        have z : (er != 0) = true := by rw [bne_iff_ne, ← her]; exact HE.out
        have HER := Lib.hid her
        obtain ⟨c0, -, hHl, -, -⟩ := HF2.out.hall (H := H) (vm := .slice am s.M.length cm) (vl := .slice al s.L.length cl) (by simp [hallE])
        have HS := Lib.hid (HF2.out.sa (T := 90) (c := 3) (n := s.M.length) (cap := cm) (ad := am) (xs := rowsC memC s.M) (by simp [hallE, eM]))
        have HC0 := Lib.hid c0
        clear hfi hj HE her
        go_wp2_with fail
        go_region_with (first
          | (go_at_call 40; go_loud (refine (halTickets s.M s.M.length am cm H w2.drew HS.out rfl (by omega) HC0.out).mono ?_; rintro e w3 ⟨ad, cp, rfl, hcp, hf3⟩; have HF3 := Lib.hid (HF2.out.drew.call hf3); obtain ⟨-, y1, -, -, -⟩ := HF3.out.deed (N := N) (k := k) (n := n) (nm := nm) (to := to) (by simp); have HS3 := Lib.hid (HF3.out.sa (T := 3) (c := 1) (n := (ints (tksL s.M)).length) (cap := cp) (ad := ad) (xs := ints (tksL s.M)) (by simp [Ent.big, tksL_len, ints_len])); clear hf3))
          | (go_at_call 57; go_loud (refine (lotLend_err (tksL s.M) s.M.length ad cp i j n w3 HS3.out (tksL_len _) H8.out HV.out.1).mono ?_; rintro e w4 ⟨rfl, hf4⟩; have HF4 := Lib.hid (HF3.out.keep hf4.bel); rw [HV.out.2, HER.out]; clear hf4)))
        all_goals go_wp2_with fail
        all_goals go_ret
        all_goals exact ⟨by rw [HER.out]; rfl, am, cm, al, cl, HF4.out.tail.tail⟩
  · have EV : Hid (lendE s i n to = 4) := Lib.hid (by unfold lendE; rw [hj, if_pos (by omega)])
    have hfi : fiV to s.M = -1 := by unfold fiV; rw [hj, if_neg hlt]
    rw [hfi]
    have d3 : decide ((-1 : Int) < 0) = true := rfl
    clear hfi hj
    go_wp2_with fail
    go_ret
    exact ⟨by rw [EV.out]; rfl, am, cm, al, cl, HF2.out.tail⟩
end Go.Proofs.Ytjplnkkcmkpkbaa
