/- Several of my texts in one: Hal4, LotE, Str, StrX. -/
import Derived.Test.YtjplnkkcmkpkbaaMA32
import Derived.RegionTactic
import Derived.Test.YtjplnkkcmkpkbaaMA33
import Derived.Test.YtjplnkkcmkpkbaaMA29
set_option linter.unusedSimpArgs false
set_option linter.unusedVariables false
/- A hall in the memory; contract of won. -/
namespace Go.Proofs.Ytjplnkkcmkpkbaa
open Go.RowKit

/-- a store into one of them -/
theorem Fg.setIn {w0 w : World} {B1 B2 : List Big} {T : TypeId} {c g n cap : Nat} {xs : List Value} (h : Fg w0 w (B1 ++ ⟨T, c, n, .slice (some ⟨g, 0, none⟩) n cap, xs⟩ :: B2)) (i : Nat) (y : Value) :
    Fg w0 (w.setCell ⟨g, i, none⟩ y) (B1 ++ ⟨T, c, n, .slice (some ⟨g, 0, none⟩) n cap, xs.set i y⟩ :: B2) :=
  ((h.perm List.perm_middle).set i y).perm List.perm_middle.symm
def eH (H : Nat) (vm vl : Value) : Big := ⟨83, 1, 2, .slice (some ⟨H, 0, none⟩) 2 2, [vm, vl]⟩
def eM (ad : Option Addr) (cap : Nat) (M : List Mem) : Big := ⟨90, 3, M.length, .slice ad M.length cap, rowsC memC M⟩
def eL (ad : Option Addr) (cap : Nat) (L : List Loan) : Big := ⟨106, 3, L.length, .slice ad L.length cap, rowsC loanC L⟩
def hallE (H : Nat) (am : Option Addr) (cm : Nat) (al : Option Addr) (cl : Nat) (s : HSt) (B : List Big) : List Big :=
  eH H (.slice am s.M.length cm) (.slice al s.L.length cl) :: eM am cm s.M :: eL al cl s.L :: B
/-- the hall s lies at H, beside B -/
def Hw (w0 w : World) (H : Nat) (s : HSt) (B : List Big) : Prop := ∃ am cm al cl, Fg w0 w (hallE H am cm al cl s B)
theorem Fg.hall {w0 w : World} {B : List Big} (h : Fg w0 w B) {H : Nat} {vm vl : Value} (he : eH H vm vl ∈ B) :
    w.cell? ⟨H, 0, .none⟩ = some vm ∧ w.cell? ⟨H, 1, .none⟩ = some vl ∧ H < w.heap.size ∧ w.frozen? ⟨H, 0, .none⟩ = false ∧ w.frozen? ⟨H, 1, .none⟩ = false := by
  obtain ⟨g, e, _, h1, h2, h3⟩ := h.open he (by show 0 < 2; omega)
  cases e
  exact ⟨h2 0 (by show 0 < 2; omega), h2 1 (by show 1 < 2; omega), h1, h3 0, h3 1⟩
theorem Fg.mem3 {w0 w : World} {B : List Big} (h : Fg w0 w B) {ad : Option Addr} {cap : Nat} {M : List Mem} (he : eM ad cap M ∈ B) (i : Nat) (m : Mem) (hi : M[i]? = some m) :
    ∃ g, ad = some ⟨g, 0, none⟩ ∧ g < w.heap.size ∧ w.cell? ⟨g, i * 3, none⟩ = some (.string m.nm) ∧ w.cell? ⟨g, i * 3 + 1, none⟩ = some (.int .i64 m.tk) ∧ w.cell? ⟨g, i * 3 + 2, none⟩ = some (.int .i64 m.wn) ∧ ∀ j, w.frozen? ⟨g, j, none⟩ = false := by
  have hl : i < M.length := (List.getElem?_eq_some_iff.1 hi).1
  have hlen := rowsC_len memC_len M
  obtain ⟨g, e, _, h1, h2, h3⟩ := h.open he (by rw [hlen]; omega)
  have key : ∀ j, j < 3 → w.cell? ⟨g, i * 3 + j, none⟩ = (memC m)[j]? := fun j hj => by
    rw [h2 (i * 3 + j) (by rw [hlen]; omega), rowsC_get memC_len M i j m hi hj]
  exact ⟨g, e, h1, key 0 (by omega), key 1 (by omega), key 2 (by omega), h3⟩
theorem Fg.loan3 {w0 w : World} {B : List Big} (h : Fg w0 w B) {ad : Option Addr} {cap : Nat} {L : List Loan} (he : eL ad cap L ∈ B) (i : Nat) (m : Loan) (hi : L[i]? = some m) :
    ∃ g, ad = some ⟨g, 0, none⟩ ∧ g < w.heap.size ∧ w.cell? ⟨g, i * 3, none⟩ = some (.string m.fr) ∧ w.cell? ⟨g, i * 3 + 1, none⟩ = some (.string m.to) ∧ w.cell? ⟨g, i * 3 + 2, none⟩ = some (.int .i64 m.n) ∧ ∀ j, w.frozen? ⟨g, j, none⟩ = false := by
  have hl : i < L.length := (List.getElem?_eq_some_iff.1 hi).1
  have hlen := rowsC_len loanC_len L
  obtain ⟨g, e, _, h1, h2, h3⟩ := h.open he (by rw [hlen]; omega)
  have key : ∀ j, j < 3 → w.cell? ⟨g, i * 3 + j, none⟩ = (loanC m)[j]? := fun j hj => by
    rw [h2 (i * 3 + j) (by rw [hlen]; omega), rowsC_get loanC_len L i j m hi hj]
  exact ⟨g, e, h1, key 0 (by omega), key 1 (by omega), key 2 (by omega), h3⟩
theorem Fg.setM {w0 w : World} {B1 B2 : List Big} {g cap : Nat} {M : List Mem} (h : Fg w0 w (B1 ++ eM (some ⟨g, 0, none⟩) cap M :: B2)) (i j : Nat) (m m' : Mem) (hi : M[i]? = some m) (hj : j < 3) (v : Value) (e : (memC m).set j v = memC m') :
    Fg w0 (w.setCell ⟨g, i * 3 + j, none⟩ v) (B1 ++ eM (some ⟨g, 0, none⟩) cap (M.set i m') :: B2) := by
  have := h.setIn (i * 3 + j) v
  rw [rowsC_set memC_len M i j m m' v hi hj e] at this
  unfold eM
  rw [List.length_set]
  exact this
def setW (s : HSt) (i : Nat) (m : Mem) : HSt := ⟨s.M.set i m, s.L⟩
/-- what a call that says something of the hall leaves -/
def ToldW (w0 : World) (H : Nat) (s : HSt) (B : List Big) (nm : ByteArray) (n er : Int) (e : Ending) (w' : World) : Prop :=
  e = .returned (.tuple #[.agg #[.string nm, .int .i64 n], .int .i64 er]) ∧ Hw w0 w' H s B
set_option maxRecDepth 100000 in
set_option maxHeartbeats 8000000 in
theorem halWon {w0 w : World} (H : Nat) (s : HSt) (B : List Big) (i : Nat) (m : Mem) (h : Hw w0 w H s B) (hi : s.M[i]? = some m) (hw : 0 ≤ m.wn ∧ m.wn < 9223372036854775807) :
    Calls Try.prog 38 #[.pointer (some ⟨H, 0, .none⟩), .int .i64 i, .int .i64 0] w (ToldW w0 H (setW s i ⟨m.nm, m.tk, m.wn + 1⟩) B m.nm (m.wn + 1) 0) := by
  obtain ⟨am, cm, al, cl, hf⟩ := h
  obtain ⟨nm, tk, wn⟩ := m
  obtain ⟨hw1, hw2⟩ := hw
  simp only at hw1 hw2
  have HI := Lib.hid hi
  have hlt : i < s.M.length := (List.getElem?_eq_some_iff.1 hi).1
  have hf1 := hf.new 35 #[.string ⟨#[]⟩, .int .i64 0] [.string ⟨#[]⟩, .int .i64 0] rfl w.heap.size rfl 2 rfl (by omega)
  obtain ⟨N, hN⟩ : ∃ N, w.heap.size = N := ⟨_, rfl⟩
  rw [hN] at hf1
  obtain ⟨c0, -, -, -, -⟩ := hf1.hall (H := H) (vm := .slice am s.M.length cm) (vl := .slice al s.L.length cl) (by simp [hallE])
  obtain ⟨g, rfl, hg, x1, x2, x3, f3⟩ := hf1.mem3 (ad := am) (cap := cm) (M := s.M) (by simp [hallE]) i _ hi
  have z3 := f3 (i * 3 + 2)
  have hf2 := hf1.setM (B1 := [_, _]) i 2 _ ⟨nm, tk, wn + 1⟩ hi (by omega) (.int .i64 (wn + 1)) rfl
  have hi' : (s.M.set i ⟨nm, tk, wn + 1⟩)[i]? = some ⟨nm, tk, wn + 1⟩ := by rw [List.getElem?_set_self hlt]
  obtain ⟨c0', -, -, -, -⟩ := hf2.hall (H := H) (vm := .slice (some ⟨g, 0, none⟩) s.M.length cm) (vl := .slice al s.L.length cl) (by simp)
  obtain ⟨g', e, hg', x1', x2', x3', f3'⟩ := hf2.mem3 (ad := some ⟨g, 0, none⟩) (cap := cm) (M := s.M.set i ⟨nm, tk, wn + 1⟩) (by simp) i _ hi'
  cases e
  obtain ⟨gt, e, htl, t1, t2⟩ := hf2.open (T := 35) (c := 1) (n := 2) (cap := 2) (ad := some ⟨N, 0, none⟩) (xs := [.string ⟨#[]⟩, .int .i64 0]) (by simp) (by simp)
  cases e
  have u0 := t2.2 0
  have u1 := t2.2 1
  have HF2 := Lib.hid hf2
  have d1 : (0 : Int) ≤ (i : Int) := by omega
  have d2 : (i : Int) < (s.M.length : Int) := by omega
  clear hf hi f3 hf1 hf2 hi' f3' t2 t1 htl hg'
  go_enter Try.func38, Try.ntmps38
  go_wp2_with fail
  go_region
  go_wp2_with fail
  have h2 : Fg w0 _ (⟨35, 1, 2, .slice (some ⟨N, 0, none⟩) 2 2, [.string ⟨#[]⟩, .int .i64 0]⟩ :: eH H (.slice (some ⟨g, 0, none⟩) s.M.length cm) (.slice al s.L.length cl) :: eM (some ⟨g, 0, none⟩) cm (s.M.set i ⟨nm, tk, wn + 1⟩) :: eL al cl s.L :: B) := HF2.out
  have h3 := ((h2.set 0 (.string nm)).set 1 (.int .i64 (wn + 1))).drew
  generalize ((((w.alloc (.cells #[.string ⟨#[]⟩, .int .i64 0] 35)).setCell ⟨g, i * 3 + 2, none⟩ (.int .i64 (wn + 1))).setCell ⟨N, 0, none⟩ (.string nm)).setCell ⟨N, 1, none⟩ (.int .i64 (wn + 1))).drew = WF at h3 ⊢
  obtain ⟨gt, e, -, -, t1, -⟩ := h3.open (T := 35) (c := 1) (n := 2) (cap := 2) (ad := some ⟨N, 0, none⟩) (xs := [.string nm, .int .i64 (wn + 1)]) List.mem_cons_self (by simp)
  cases e
  have t10 : WF.cell? ⟨N, 0, none⟩ = some (.string nm) := t1 0 (by simp)
  have t11 : WF.cell? ⟨N, 1, none⟩ = some (.int .i64 (wn + 1)) := t1 1 (by simp)
  have h4 : ToldW w0 H (setW s i ⟨nm, tk, wn + 1⟩) B nm (wn + 1) 0 (.returned (.tuple #[.agg #[.string nm, .int .i64 (wn + 1)], .int .i64 0])) WF := by
    refine ⟨rfl, some ⟨g, 0, none⟩, cm, al, cl, ?_⟩
    have h4 := h3.tail
    unfold hallE setW
    simp only [List.length_set]
    exact h4
  refine bodyPost_ret (v := .tuple #[.agg #[.string nm, .int .i64 (wn + 1)], .int .i64 0]) ?_ ?_ ?_
  rotate_left
  · rfl
  · exact h4
  simp [results, Try.results38, go_sem, t10, t11]
end Go.Proofs.Ytjplnkkcmkpkbaa
/- lottery.Lend where it may not be: which error. -/
namespace Go.Proofs.Ytjplnkkcmkpkbaa
open Go.RowKit

def lendErr (l : List Int) (f t k : Int) : Int := if f < 0 ∨ (l.length : Int) ≤ f ∨ t < 0 ∨ (l.length : Int) ≤ t ∨ k < 0 then 1 else if nth l f.toNat < k then 4 else 9
set_option maxRecDepth 100000 in
set_option maxHeartbeats 4000000 in
theorem lotLend_err (l : List Int) (n : Nat) (a : Option Addr) (cap : Nat) (f t k : Int) (w : World) (h : Sa w a (ints l)) (hn : l.length = n) (hp : TkOk l) (hc : ¬ ∃ f' t', LendOk l f t k f' t') :
    Calls Try.prog 57 #[.slice a n cap, .int .i64 f, .int .i64 t, .int .i64 k] w fun e w' => e = .returned (.tuple #[.slice none 0 0, .int .i64 (lendErr l f t k)]) ∧ Fr w w' [] := by
  have hl := hp.1
  rw [hn] at hl
  have HN := Lib.hid hn; have HS := Lib.hid h; have HP := Lib.hid hp
  have HCK := fun W b => lotChk l n a cap W b hn hp
  have HCH := Lib.hid (lotChk l n a cap w h hn hp)
  by_cases b1 : f < 0 ∨ (n : Int) ≤ f ∨ t < 0 ∨ (n : Int) ≤ t ∨ k < 0
  · have HE : Hid (lendErr l f t k = 1) := Lib.hid (by unfold lendErr; rw [if_pos (by rw [hn]; exact b1)])
    clear hc hn h hp HCK
    rcases Int.lt_or_le f 0 with c1 | c1
    case' inl => have g1 : decide (f < 0) = true := decide_eq_true c1
    case' inr =>
      have g1 : decide (f < 0) = false := decide_eq_false (by omega)
      rcases Int.lt_or_le f n with c2 | c2
      case' inr => have g2 : decide ((n : Int) ≤ f) = true := decide_eq_true c2
      case' inl =>
        have g2 : decide ((n : Int) ≤ f) = false := decide_eq_false (by omega)
        rcases Int.lt_or_le t 0 with c3 | c3
        case' inl => have g3 : decide (t < 0) = true := decide_eq_true c3
        case' inr =>
          have g3 : decide (t < 0) = false := decide_eq_false (by omega)
          rcases Int.lt_or_le t n with c4 | c4
          case' inr => have g4 : decide ((n : Int) ≤ t) = true := decide_eq_true c4
          case' inl =>
            have g4 : decide ((n : Int) ≤ t) = false := decide_eq_false (by omega)
            have g5 : decide (k < 0) = true := decide_eq_true (by omega)
    all_goals
      clear b1
      go_enter Try.func57, Try.ntmps57
      go_wp2_with fail
      refine HCH.out.mono ?_; rintro e w' ⟨rfl, rfl⟩
      go_wp2_with fail
      go_ret2
      exact ⟨by rw [HE.out]; rfl, Fr.start w⟩
  · obtain ⟨f', rfl⟩ : ∃ f' : Nat, f = f' := ⟨f.toNat, by omega⟩
    obtain ⟨t', rfl⟩ : ∃ t' : Nat, t = t' := ⟨t.toNat, by omega⟩
    have hf : f' < n := by omega
    have ht : t' < n := by omega
    have g1 : decide ((f' : Int) < 0) = false := decide_eq_false (by omega)
    have g2 : decide (n ≤ f') = false := decide_eq_false (by omega)
    have g3 : decide ((t' : Int) < 0) = false := decide_eq_false (by omega)
    have g4 : decide (n ≤ t') = false := decide_eq_false (by omega)
    have g5 : decide (k < 0) = false := decide_eq_false (by omega)
    obtain ⟨p1, p2⟩ := hp.2 f' (by omega)
    obtain ⟨b, off, rfl, hb, hcell⟩ := h.int f' (by omega)
    have e1 : (f' : Int) < (n : Int) := by omega
    have e2 : (t' : Int) < (n : Int) := by omega
    by_cases hk : k ≤ nth l f'
    · have hbad : 100 < nth (l.set f' (nth l f' - k)) t' + k := by
        rcases Int.lt_or_le 100 (nth (l.set f' (nth l f' - k)) t' + k) with h1 | h1
        · exact h1
        · exact absurd ⟨f', t', rfl, rfl, by omega, by omega, by omega, hk, h1⟩ hc
      have q : ∀ j, j < l.length → 0 ≤ nth (l.set f' (nth l f' - k)) j ∧ nth (l.set f' (nth l f' - k)) j ≤ 100 := fun j hj => by
        rw [nth_set _ _ _ _ (by omega)]
        have := hp.2 j hj
        split <;> omega
      have qt := q t' (by omega)
      have HE : Hid (lendErr l f' t' k = 9) := Lib.hid (by unfold lendErr; rw [if_neg (by rw [hn]; exact b1), Int.toNat_natCast, if_neg (by omega)])
      have HSA := Lib.hid (h.alloc (.cells #[] 3))
      have HF := Lib.hid ((Fr.start w).lit [] #[] rfl 0 rfl (by omega) 3)
      have HNI := Lib.hid (show (ints l).length = n from by rw [ints_len, hn])
      obtain ⟨x, hx⟩ : ∃ x, nth l f' = x := ⟨_, rfl⟩
      rw [hx] at p1 p2 hk hbad qt hcell
      have HX := Lib.hid hx
      obtain ⟨y, hy⟩ : ∃ y, nth (l.set f' (x - k)) t' = y := ⟨_, rfl⟩
      rw [hy] at hbad qt
      have HY := Lib.hid hy
      obtain ⟨qt1, qt2⟩ := qt
      have g6 : decide (x < k) = false := decide_eq_false (by omega)
      have g7 : decide ((100 : Int) < y + k) = true := decide_eq_true hbad
      clear hn h hp hx hy q hb hc HCK b1
      go_enter Try.func57, Try.ntmps57
      go_wp2_with fail
      refine HCH.out.mono ?_; rintro e w' ⟨rfl, rfl⟩
      go_wp2_with (with_reducible refine at_slot 47 ?_; go_must (refine wpList_copyOf rfl (.tmp 45) (.tmp 46) rfl _ _ n cap l [] rfl HF.out rfl HSA.out HNI.out (fun e => by cases e) (by omega) ?_; intro ad2 cp2 w2 hf2 _; obtain ⟨g, rfl, -⟩ := hf2.openI f' (by rw [HN.out]; exact hf); obtain ⟨c1, z1, c2, z2, c3, hf3⟩ := lend_cells hf2 f' t' k x y (by rw [HN.out]; exact hf) (by rw [HN.out]; exact ht) HX.out HY.out; have HF3 := Lib.hid hf3; clear hf2 hf3))
      go_ret2
      exact ⟨by rw [HE.out]; rfl, HF3.out.below⟩
    · have HE : Hid (lendErr l f' t' k = 4) := Lib.hid (by unfold lendErr; rw [if_neg (by rw [hn]; exact b1), Int.toNat_natCast, if_pos (by omega)])
      obtain ⟨x, hx⟩ : ∃ x, nth l f' = x := ⟨_, rfl⟩
      rw [hx] at p1 p2 hk hcell
      have g6 : decide (x < k) = true := decide_eq_true (by omega)
      clear hn h hp hx hb hc HCK b1
      go_enter Try.func57, Try.ntmps57
      go_wp2_with fail
      refine HCH.out.mono ?_; rintro e w' ⟨rfl, rfl⟩
      go_wp2_with fail
      go_ret2
      exact ⟨by rw [HE.out]; rfl, Fr.start w⟩
end Go.Proofs.Ytjplnkkcmkpkbaa
/- Contracts of package stride, at tickets that are right. -/
namespace Go.Proofs.Ytjplnkkcmkpkbaa
open Go.RowKit

theorem mul_bdS {a b m k : Int} (h1 : 0 ≤ a) (h2 : a ≤ m) (h3 : 0 ≤ b) (h4 : b ≤ k) (hm : 0 ≤ m) : 0 ≤ a * b ∧ a * b ≤ m * k := by
  refine ⟨Int.mul_nonneg h1 h3, ?_⟩
  exact Int.le_trans (Int.mul_le_mul_of_nonneg_right h2 h3) (Int.mul_le_mul_of_nonneg_left h4 hm)

set_option maxRecDepth 100000 in
set_option maxHeartbeats 2000000 in
theorem strNxt (l had : List Int) (n : Nat) (a b : Option Addr) (ca cb : Nat) (w : World) (h : Sa w a (ints l)) (h' : Sa w b (ints had)) (hn : l.length = n) (hn' : had.length = n) (hp : TkOk l)
    (hh : ∀ j, j < n → 0 ≤ nth had j ∧ nth had j ≤ 1000000000) :
    Calls Try.prog 51 #[.slice a n ca, .slice b n cb] w fun e w' => e = .returned (.int .i64 (bestL l had n)) ∧ Fr w w' [] := by
  have hn8 := hp.1
  rw [hn] at hn8
  have HN := Lib.hid hn; have HN' := Lib.hid hn'; have HS := Lib.hid h; have HS' := Lib.hid h'; have HP := Lib.hid hp; have HH := Lib.hid hh
  clear hn hn' h h' hp hh
  go_enter Try.func51, Try.ntmps51
  go_wp2_with fail
  go_loopw [5, 10] (fun be i wr => ∃ k : Nat, k ≤ n ∧ i = .int .i64 k ∧ be = .int .i64 (bestL l had k) ∧ Fr w wr []) (fun _ i _ => n - (intOf i).toNat)
  case atStart => exact ⟨0, by omega, rfl, rfl, Fr.start w⟩
  case round =>
    obtain ⟨k, hk, rfl, rfl, hfr⟩ := hrel
    by_cases hlt : k < n
    · obtain ⟨b1, o1, rfl, hb1, hc1⟩ := (hfr.old HS.out).int k (by rw [HN.out]; exact hlt)
      obtain ⟨p1, p2⟩ := HP.out.2 k (by rw [HN.out]; exact hlt)
      have hbd := bestL_lt l had k
      have hst : (0 < nth l k ∧ (bestL l had k < 0 ∨ nth had k * nth l (bestL l had k).toNat < nth had (bestL l had k).toNat * nth l k) → bestL l had (k + 1) = k) ∧ (¬ (0 < nth l k ∧ (bestL l had k < 0 ∨ nth had k * nth l (bestL l had k).toNat < nth had (bestL l had k).toNat * nth l k)) → bestL l had (k + 1) = bestL l had k) :=
        ⟨fun h => if_pos h, fun h => if_neg h⟩
      obtain ⟨x, hx⟩ : ∃ x, nth l k = x := ⟨_, rfl⟩
      rw [hx] at hc1 p1 p2 hst
      obtain ⟨B, hB⟩ : ∃ B, bestL l had k = B := ⟨_, rfl⟩
      rw [hB] at hst hbd ⊢
      clear hx hB
      have d1 : (0 : Int) ≤ (k : Int) := by omega
      have d2 : (k : Int) < (n : Int) := by omega
      have HF := Lib.hid hfr
      clear hfr
      by_cases hx0 : 0 < x
      · have c1 : decide (0 < x) = true := decide_eq_true hx0
        by_cases hB0 : B < 0
        · have c2 : decide (B < 0) = true := decide_eq_true hB0
          replace hst := hst.1 ⟨hx0, .inl hB0⟩
          have HST := Lib.hid hst
          clear hst
          go_wp2_with fail
          go_quiet (fail)
          go_wp2_with fail
          go_roundw
          case rel => exact ⟨k + 1, by omega, by go_num, val_int HST.out.symm, HF.out.drewN _⟩
          case measure => simp only [intOf]; omega
        · obtain ⟨β, rfl⟩ : ∃ β : Nat, B = β := ⟨B.toNat, by omega⟩
          simp only [Int.toNat_natCast] at hst
          have hβ : β < k := by omega
          obtain ⟨b2, o2, rfl, hb2, hc2⟩ := (HF.out.old HS'.out).int k (by rw [HN'.out]; exact hlt)
          have hc3 := ((HF.out.old HS'.out).int β (by rw [HN'.out]; omega))
          have hc4 := ((HF.out.old HS.out).int β (by rw [HN.out]; omega))
          obtain ⟨_, _, e3, _, hc3⟩ := hc3
          obtain ⟨_, _, e4, _, hc4⟩ := hc4
          cases e3
          cases e4
          obtain ⟨r1, r2⟩ := HH.out k hlt
          obtain ⟨r3, r4⟩ := HH.out β (by omega)
          obtain ⟨r5, r6⟩ := HP.out.2 β (by rw [HN.out]; omega)
          generalize nth had k = hk' at *
          generalize nth had β = hb' at *
          generalize nth l β = lb' at *
          have m1 := mul_bdS r1 r2 r5 r6 (by omega)
          have m2 := mul_bdS r3 r4 p1 p2 (by omega)
          obtain ⟨q1, P1⟩ : ∃ q, hk' * lb' = q := ⟨_, rfl⟩
          obtain ⟨q2, P2⟩ : ∃ q, hb' * x = q := ⟨_, rfl⟩
          rw [P1] at m1 hst
          rw [P2] at m2 hst
          obtain ⟨m11, m12⟩ := m1
          obtain ⟨m21, m22⟩ := m2
          have c2 : decide ((β : Int) < 0) = false := decide_eq_false (by omega)
          have d3 : (0 : Int) ≤ (β : Int) := by omega
          have d4 : (β : Int) < (n : Int) := by omega
          by_cases hq : q1 < q2
          · have c3 : decide (q1 < q2) = true := decide_eq_true hq
            replace hst := hst.1 ⟨hx0, .inr hq⟩
            have HST := Lib.hid hst
            clear hst hbd
            go_wp2_with fail
            go_quiet (fail)
            go_wp2_with fail
            go_roundw
            case rel => exact ⟨k + 1, by omega, by go_num, val_int HST.out.symm, HF.out.drewN _⟩
            case measure => simp only [intOf]; omega
          · have c3 : decide (q1 < q2) = false := decide_eq_false hq
            replace hst := hst.2 (by omega)
            have HST := Lib.hid hst
            clear hst hbd
            go_wp2_with fail
            go_quiet (fail)
            go_wp2_with fail
            go_roundw
            case rel => exact ⟨k + 1, by omega, by go_num, val_int HST.out.symm, HF.out.drewN _⟩
            case measure => simp only [intOf]; omega
      · have c1 : decide (0 < x) = false := decide_eq_false hx0
        replace hst := hst.2 (by omega)
        have HST := Lib.hid hst
        clear hst
        go_wp2_with fail
        go_quiet (fail)
        go_wp2_with fail
        go_roundw
        case rel => exact ⟨k + 1, by omega, by go_num, val_int HST.out.symm, HF.out.drewN _⟩
        case measure => simp only [intOf]; omega
    · obtain rfl : k = n := by omega
      go_wp2_with fail
      go_ret
      exact ⟨rfl, hfr⟩

def NxSaid (B : Int) (w : World) (e : Ending) (w' : World) : Prop :=
  ((B < 0 ∧ e = .returned (.tuple #[.int .i64 0, .int .i64 4])) ∨ (0 ≤ B ∧ e = .returned (.tuple #[.int .i64 B, .int .i64 0]))) ∧ Fr w w' []
set_option maxRecDepth 100000 in
set_option maxHeartbeats 2000000 in
theorem strNext (l had : List Int) (n : Nat) (a b : Option Addr) (ca cb : Nat) (w : World) (h : Sa w a (ints l)) (h' : Sa w b (ints had)) (hn : l.length = n) (hn' : had.length = n) (hp : TkOk l)
    (hh : ∀ j, j < n → 0 ≤ nth had j ∧ nth had j ≤ 1000000000) :
    Calls Try.prog 41 #[.slice a n ca, .slice b n cb] w (NxSaid (bestL l had n) w) := by
  have hn8 := hp.1
  rw [hn] at hn8
  have HN := Lib.hid hn; have HN' := Lib.hid hn'; have HS := Lib.hid h; have HS' := Lib.hid h'; have HP := Lib.hid hp; have HH := Lib.hid hh
  clear hn hn' h h' hp hh
  go_enter Try.func41, Try.ntmps41
  go_wp2_with fail
  refine (lotChk l n _ _ _ HS.out HN.out HP.out).mono ?_; rintro e w' ⟨rfl, rfl⟩
  have q0 : ((n : Int) != (n : Int)) = false := by simp
  go_wp2_with fail
  go_loop [22] (fun i => ∃ k : Nat, k ≤ n ∧ i = .int .i64 k) (fun i => n - (intOf i).toNat)
  case atStart => exact ⟨0, by omega, rfl⟩
  case round =>
    obtain ⟨k, hk, rfl⟩ := hrel
    by_cases hlt : k < n
    · obtain ⟨b', off, rfl, hb, hc⟩ := HS'.out.int k (by rw [HN'.out]; exact hlt)
      obtain ⟨p1, p2⟩ := HH.out k hlt
      generalize nth had k = x at *
      go_wp2_with fail
      exact ⟨⟨k + 1, by omega, by simp⟩, by simp only [intOf]; omega⟩
    · go_wp2_with fail
      refine (strNxt l had n _ _ _ _ _ HS.out HS'.out HN.out HN'.out HP.out HH.out).mono ?_; rintro e w1 ⟨rfl, hf⟩
      have hbd := bestL_lt l had n
      obtain ⟨B, hB⟩ : ∃ B, bestL l had n = B := ⟨_, rfl⟩
      rw [hB] at hbd ⊢
      have HB := Lib.hid hB
      clear hB
      obtain ⟨hb1, hb2⟩ := hbd
      by_cases hB : B < 0
      · go_wp2_with fail
        go_ret2
        rw [HB.out]; exact ⟨.inl ⟨hB, rfl⟩, hf⟩
      · go_wp2_with fail
        go_ret2
        rw [HB.out]; exact ⟨.inr ⟨by omega, rfl⟩, hf⟩

def NoSaid (t : Nat) (w : World) (e : Ending) (w' : World) : Prop :=
  ((t = 0 ∧ e = .returned (.tuple #[.slice none 0 0, .int .i64 0])) ∨ (0 < t ∧ e = .returned (.tuple #[.slice none 0 0, .int .i64 4]))) ∧ Fr w w' []
end Go.Proofs.Ytjplnkkcmkpkbaa
/- stride.Next for all counts from 0 on. -/
namespace Go.Proofs.Ytjplnkkcmkpkbaa
open Go.RowKit

set_option maxRecDepth 100000 in
set_option maxHeartbeats 2000000 in
theorem strNextX (l had : List Int) (n : Nat) (a b : Option Addr) (ca cb : Nat) (w : World) (h : Sa w a (ints l)) (h' : Sa w b (ints had)) (hn : l.length = n) (hn' : had.length = n) (hp : TkOk l)
    (hh : ∀ j, j < n → 0 ≤ nth had j) (hx : ∃ j, j < n ∧ 1000000000 < nth had j) :
    Calls Try.prog 41 #[.slice a n ca, .slice b n cb] w fun e w' => e = .returned (.tuple #[.int .i64 0, .int .i64 1]) ∧ Fr w w' [] := by
  have hn8 := hp.1
  rw [hn] at hn8
  have HN := Lib.hid hn; have HN' := Lib.hid hn'; have HS := Lib.hid h; have HS' := Lib.hid h'; have HP := Lib.hid hp; have HH := Lib.hid hh; have HX := Lib.hid hx
  clear hn hn' h h' hp hh hx
  go_enter Try.func41, Try.ntmps41
  go_wp2_with fail
  refine (lotChk l n _ _ _ HS.out HN.out HP.out).mono ?_; rintro e w' ⟨rfl, rfl⟩
  have q0 : ((n : Int) != (n : Int)) = false := by simp
  go_wp2_with fail
  go_loop [22] (fun i => ∃ k : Nat, k ≤ n ∧ i = .int .i64 k ∧ Hid (∀ j, j < k → nth had j ≤ 1000000000)) (fun i => n - (intOf i).toNat)
  case atStart => exact ⟨0, by omega, rfl, Lib.hid fun j hj => by omega⟩
  case round =>
    obtain ⟨k, hk, rfl, HK⟩ := hrel
    by_cases hlt : k < n
    · obtain ⟨b', off, rfl, hb, hc⟩ := HS'.out.int k (by rw [HN'.out]; exact hlt)
      have p1 := HH.out k hlt
      obtain ⟨x, hx⟩ : ∃ x, nth had k = x := ⟨_, rfl⟩
      rw [hx] at hc p1
      have HXX := Lib.hid hx
      clear hx
      have d0 : decide (x < 0) = false := decide_eq_false (by omega)
      by_cases hbig : 1000000000 < x
      · have d1 : decide (1000000000 < x) = true := decide_eq_true hbig
        go_wp2_with fail
        go_ret2
        exact ⟨rfl, Fr.start _⟩
      · have d1 : decide (1000000000 < x) = false := decide_eq_false hbig
        go_wp2_with fail
        exact ⟨⟨k + 1, by omega, by simp, Lib.hid fun j hj => by
          by_cases e : j = k
          · rw [e, HXX.out]; omega
          · exact HK.out j (by omega)⟩, by simp only [intOf]; omega⟩
    · obtain ⟨j, h1, h2⟩ := HX.out
      have := HK.out j (by omega)
      omega
/-- whose turn it is, and with which error -/
def nextW (l had : List Int) : Int × Int :=
  if had.any (fun x => decide (1000000000 < x)) then (0, 1) else if bestL l had l.length < 0 then (0, 4) else (bestL l had l.length, 0)
theorem strNextAny (l had : List Int) (n : Nat) (a b : Option Addr) (ca cb : Nat) (w : World) (h : Sa w a (ints l)) (h' : Sa w b (ints had)) (hn : l.length = n) (hn' : had.length = n) (hp : TkOk l)
    (hh : ∀ j, j < n → 0 ≤ nth had j) :
    Calls Try.prog 41 #[.slice a n ca, .slice b n cb] w fun e w' => e = .returned (.tuple #[.int .i64 (nextW l had).1, .int .i64 (nextW l had).2]) ∧ Fr w w' [] := by
  cases ha : had.any (fun x => decide (1000000000 < x))
  · have hall : ∀ j, j < n → nth had j ≤ 1000000000 := fun j hj => by
      rw [List.any_eq_false] at ha
      have := ha (nth had j) (nth_mem _ _ (by omega))
      simpa using this
    refine (strNext l had n a b ca cb w h h' hn hn' hp (fun j hj => ⟨hh j hj, hall j hj⟩)).mono ?_
    rintro e w' ⟨hx, hf⟩
    refine ⟨?_, hf⟩
    unfold nextW
    rw [ha, hn]
    rcases hx with ⟨h1, rfl⟩ | ⟨h1, rfl⟩
    · rw [if_pos h1]; rfl
    · rw [if_neg (show ¬ bestL l had n < 0 by omega)]; rfl
  · have e : nextW l had = (0, 1) := by unfold nextW; rw [ha]; rfl
    rw [e]
    obtain ⟨x, hx, hb⟩ := List.any_eq_true.1 ha
    obtain ⟨j, hj, rfl⟩ := List.getElem_of_mem hx
    have e2 : nth had j = had[j] := by simp [nth, hj]
    refine strNextX l had n a b ca cb w h h' hn hn' hp hh ⟨j, by omega, ?_⟩
    rw [e2]; simpa using hb
end Go.Proofs.Ytjplnkkcmkpkbaa
