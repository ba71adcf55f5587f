/- Several of my texts in one: TabON, RowF, EqIB, OrbGA, OrbC, FGq. -/
import Derived.Test.YtooghdnlaonkaaaRw12
import Derived.Test.YtooghdnlaonkaaaRw15
import Derived.Test.YtooghdnlaonkaaaRw07
import Derived.Test.YtooghdnlaonkaaaRw09
import Derived.Test.YtooghdnlaonkaaaRw22
import Derived.Test.YtooghdnlaonkaaaRw20
import Derived.Test.YtooghdnlaonkaaaRw21
import Derived.Maps.OwnOps
import Derived.Maps.Views
/- tableau.Of where perm.Check refuses. -/
namespace Go.Proofs.Ytooghdnlaonkaaa
open Go.RowKit

set_option maxRecDepth 100000 in
set_option maxHeartbeats 1000000 in
theorem tabOfNo (p : List Int) (n : Nat) (a : Option Addr) (cap : Nat) (w : World) (h : Sa w a (ints p)) (hn : p.length = n) (hm : n ≤ maxLen) (hq : chkP p ≠ 0) :
    Calls Try.prog 25 #[.slice a n cap] w fun e w' => e = .returned (.tuple #[.agg #[.slice none 0 0, .slice none 0 0], .int .i64 (chkP p)]) ∧ Fr w w' [] := by
  obtain ⟨N, hN⟩ : ∃ N, w.heap.size = N := ⟨_, rfl⟩
  have f1 := (Fr.start w).new 50 #[.slice none 0 0, .slice none 0 0] [.slice none 0 0, .slice none 0 0] rfl 2 rfl (by omega)
  rw [hN] at f1
  have HF0 := Lib.hid f1
  have HC := Lib.hid (permChkA p n a cap _ (f1.old h) hn hm)
  obtain ⟨er, her⟩ : ∃ er, chkP p = er := ⟨_, rfl⟩
  rw [her] at HC hq ⊢
  have g : (er == 0) = false := beq_eq_false_iff_ne.2 hq
  clear h hn hm hq her f1
  go_enter Try.func25, Try.ntmps25
  go_wp2_with fail
  refine HC.out.mono ?_; rintro e w' ⟨rfl, hf⟩
  have HF := Lib.hid (HF0.out.keep hf.bel)
  clear hf HC HF0
  obtain ⟨g', e, -, -, t1, t2⟩ := HF.out.open (by simp)
  cases e
  have c0 := t1 0 (by simp)
  have c1 := t1 1 (by simp)
  simp only [List.getElem?_cons_zero, List.getElem?_cons_succ] at c0 c1
  have f0 := t2 0
  have f1 := t2 1
  have HF7 := Lib.hid ((HF.out.set 0 (.slice none 0 0)).set 1 (.slice none 0 0)).below
  clear t1 t2
  go_wp2_with fail
  (try simp only [Exit.inBlock, Exit.then])
  refine bodyPost_ret (v := .tuple #[.agg #[.slice none 0 0, .slice none 0 0], .int .i64 er]) ?_ ?_ ?_
  · simp [results, Try.results25, go_sem, c0, c1]
  · rfl
  · exact ⟨rfl, HF7.out⟩
end Go.Proofs.Ytooghdnlaonkaaa
/- The closure of RowsOwn, and ContainsFunc over rows none of which holds -7. -/
namespace Go.Proofs.Ytooghdnlaonkaaa
open Go.RowKit

set_option maxRecDepth 100000 in
set_option maxHeartbeats 1000000 in
theorem rows1 (l : List Int) (m : Nat) (a : Option Addr) (c : Nat) (W : World) (hs : Sa W a (ints l)) (hm : l.length = m) (hb : m ≤ maxLen) (hx : (-7 : Int) ∉ l) :
    Calls Try.prog 34 #[.slice a m c] W fun e w' => e = .returned (.bool false) ∧ Fr W w' [] := by
  have HC := Lib.hid (slCoI l m a c (-7) W hs hm hb); have HX := Lib.hid hx
  clear hs hm hb hx
  go_enter Try.func34, Try.ntmps34
  go_wp2_with fail
  refine HC.out.mono ?_; rintro e w' ⟨bb, rfl, hbb, hf⟩
  have hbf : bb = false := by cases bb; rfl; exact absurd (hbb.1 rfl) HX.out
  subst hbf
  have HF := Lib.hid hf
  clear hf hbb
  go_wp2_with fail
  go_ret
  exact ⟨rfl, HF.out⟩
set_option maxRecDepth 100000 in
set_option maxHeartbeats 2000000 in
theorem idxNo (R : List Rw) (n : Nat) (a : Option Addr) (cap : Nat) (w : World) (h : Rm w a R) (hn : R.length = n) (hm : n ≤ 1000) (hl : ∀ p ∈ R, p.2.2.length ≤ 1000) (hx : ∀ p ∈ R, (-7 : Int) ∉ p.2.2) :
    Calls Try.prog 80 #[.slice a n cap, .func (.func 34) #[] #[]] w fun e w' => e = .returned (.int .i64 (-1)) ∧ Fr w w' [] := by
  have HN := Lib.hid hn; have HR := Lib.hid h; have HB := Lib.hid hl; have HX := Lib.hid hx
  clear h hn hl hx
  go_enter Try.func80, Try.ntmps80
  go_wp2_with fail
  go_loopw [8] (fun q wr => ∃ k : Nat, k ≤ n ∧ q = .int .i64 k ∧ Hid (Fr w wr [])) (fun q _ => n - (intOf q).toNat)
  case atStart => exact ⟨0, by omega, rfl, Lib.hid (Fr.start w)⟩
  case round =>
    obtain ⟨k, hk, rfl, HF⟩ := hrel
    by_cases hlt : k < n
    · have hkR : k < R.length := by rw [HN.out]; exact hlt
      obtain ⟨b1, o1, rfl, hb1, c1, s1⟩ := (HR.out.keep HF.out.bel).at k hkR
      have hln := HB.out R[k] (List.getElem_mem hkR)
      have hx := HX.out R[k] (List.getElem_mem hkR)
      obtain ⟨⟨p1, q1, l⟩, hp⟩ : ∃ p : Rw, R[k] = p := ⟨_, rfl⟩
      rw [hp] at c1 s1 hln hx
      simp only [rv] at c1
      simp only at s1 hln hx
      obtain ⟨t, ht⟩ : ∃ t, l.length = t := ⟨_, rfl⟩
      rw [ht] at c1 hln
      have HC := Lib.hid (rows1 l t p1 q1 wr s1 ht (by unfold maxLen; omega) hx)
      have d1 : (0 : Int) ≤ (k : Int) := by omega
      have d2 : (k : Int) < (n : Int) := by omega
      clear hp s1 ht hx
      go_wp2_with fail
      refine HC.out.mono ?_; rintro e w2 ⟨rfl, hf2⟩
      have HF2 := Lib.hid (HF.out.keep hf2.bel)
      clear hf2 HC
      go_wp2_with fail
      go_roundw
      case rel => exact ⟨k + 1, by omega, by go_num, HF2⟩
      case measure => simp only [intOf]; omega
    · go_wp2_with fail
      go_ret
      exact ⟨rfl, HF.out⟩
set_option maxRecDepth 100000 in
set_option maxHeartbeats 1000000 in
theorem ctnNo (R : List Rw) (n : Nat) (a : Option Addr) (cap : Nat) (w : World) (h : Rm w a R) (hn : R.length = n) (hm : n ≤ 1000) (hl : ∀ p ∈ R, p.2.2.length ≤ 1000) (hx : ∀ p ∈ R, (-7 : Int) ∉ p.2.2) :
    Calls Try.prog 33 #[.slice a n cap, .func (.func 34) #[] #[]] w fun e w' => e = .returned (.bool false) ∧ Fr w w' [] := by
  have HC := Lib.hid (idxNo R n a cap w h hn hm hl hx)
  clear h hn hl hx
  go_enter Try.func33, Try.ntmps33
  go_wp2_with fail
  refine HC.out.mono ?_; rintro e w' ⟨rfl, hf⟩
  have HF := Lib.hid hf
  clear hf
  go_wp2_with fail
  go_ret
  exact ⟨rfl, HF.out⟩
end Go.Proofs.Ytooghdnlaonkaaa
/- slices.Equal of ints of any length. -/
namespace Go.Proofs.Ytooghdnlaonkaaa
open Go.RowKit

set_option maxRecDepth 100000 in
set_option maxHeartbeats 4000000 in
/-- two that are the same, of any length -/
theorem slEqIB (l : List Int) (n : Nat) (a b : Option Addr) (ca cb : Nat) (w : World) (h : Sa w a (ints l)) (h' : Sa w b (ints l)) (hn : l.length = n) (hl : n ≤ maxLen) :
    Calls Try.prog 32 #[.slice a n ca, .slice b n cb] w (RetB true w) := by
  have HN := Lib.hid hn; have HA := Lib.hid h; have HB := Lib.hid h'
  unfold maxLen at hl
  clear hn h h'
  have hne : (((n : Nat) : Int) == ((n : Nat) : Int)) = true := beq_self_eq_true _
  go_enter Try.func32, Try.ntmps32
  go_wp2_with fail
  go_loopw [13] (fun i wr => ∃ j : Nat, j ≤ n ∧ i = .int .i64 j ∧ Fr w wr []) (fun i _ => n - (intOf i).toNat)
  case atStart => exact ⟨0, by omega, rfl, Fr.start w⟩
  case round =>
    obtain ⟨j, hj, rfl, hfr⟩ := hrel
    by_cases hlt : j < n
    · obtain ⟨b1, o1, rfl, hb1, hc1⟩ := (hfr.old HA.out).int j (by rw [HN.out]; exact hlt)
      obtain ⟨b2, o2, rfl, hb2, hc2⟩ := (hfr.old HB.out).int j (by rw [HN.out]; exact hlt)
      obtain ⟨x, hx⟩ : ∃ x, nth l j = x := ⟨_, rfl⟩
      rw [hx] at hc1 hc2
      have d1 : (0 : Int) ≤ (j : Int) := by omega
      have d2 : (j : Int) < (n : Int) := by omega
      have g : (x == x) = true := beq_self_eq_true _
      clear hx
      go_wp2_with fail
      go_quiet (fail)
      go_wp2_with fail
      exact ⟨⟨j + 1, by omega, by simp, hfr.drewN _⟩, by simp only [intOf]; omega⟩
    · obtain rfl : j = n := by omega
      go_wp2_with fail
      go_ret
      exact ⟨rfl, hfr⟩
end Go.Proofs.Ytooghdnlaonkaaa
/- orbits.Group, orbits.Least, tableau.Of where the check refuses. -/
namespace Go.Proofs.Ytooghdnlaonkaaa
open Go.RowKit

set_option maxRecDepth 100000 in
set_option maxHeartbeats 1000000 in
theorem grpNo (n : Int) (R : List Rw) (m : Nat) (a : Option Addr) (cap : Nat) (w : World) (h : Rm w a R) (hm : R.length = m) (hl : m ≤ maxLen) (hr : ∀ p ∈ R, p.2.2.length ≤ maxLen) (hq : ¬ OrbIn n m R) :
    Calls Try.prog 28 #[.int .i64 n, .slice a m cap] w fun e w' => ∃ er : Int, er ≠ 0 ∧ e = .returned (.tuple #[.slice none 0 0, .int .i64 er]) ∧ Fr w w' [] := by
  have HC := Lib.hid (orbChkA n R m a cap w h hm hl hr); have HQ := Lib.hid hq
  clear h hm hl hr hq
  go_enter Try.func28, Try.ntmps28
  go_wp2_with fail
  refine HC.out.mono ?_; rintro e w' ⟨er, rfl, her, hf⟩
  have hne : er ≠ 0 := fun h => HQ.out (her h)
  have HNE := Lib.hid hne
  have g : (er == 0) = false := beq_eq_false_iff_ne.2 hne
  have HF := Lib.hid hf
  clear her HC HQ hf hne
  go_wp2_with fail
  go_ret2
  exact ⟨er, HNE.out, rfl, HF.out⟩
set_option maxRecDepth 100000 in
set_option maxHeartbeats 1000000 in
theorem lstNo (n : Int) (R : List Rw) (m : Nat) (a : Option Addr) (cap : Nat) (v : Value) (w : World) (h : Rm w a R) (hm : R.length = m) (hl : m ≤ maxLen) (hr : ∀ p ∈ R, p.2.2.length ≤ maxLen) (hq : ¬ OrbIn n m R) :
    Calls Try.prog 29 #[.int .i64 n, .slice a m cap, v] w fun e w' => ∃ er : Int, er ≠ 0 ∧ e = .returned (.tuple #[.slice none 0 0, .int .i64 er]) ∧ Fr w w' [] := by
  have HC := Lib.hid (grpNo n R m a cap w h hm hl hr hq)
  clear h hm hl hr hq
  go_enter Try.func29, Try.ntmps29
  go_wp2_with fail
  refine HC.out.mono ?_; rintro e w' ⟨er, hne, rfl, hf⟩
  have HNE := Lib.hid hne
  have g : (er == 0) = false := beq_eq_false_iff_ne.2 hne
  have HF := Lib.hid hf
  clear HC hf hne
  go_wp2_with fail
  go_ret2
  exact ⟨er, HNE.out, rfl, HF.out⟩
end Go.Proofs.Ytooghdnlaonkaaa
/- orbits.Check of orders. -/
namespace Go.Proofs.Ytooghdnlaonkaaa
open Go.RowKit

set_option maxRecDepth 100000 in
set_option maxHeartbeats 4000000 in
theorem orbChk (n : Nat) (R : List Rw) (m : Nat) (a : Option Addr) (cap : Nat) (w : World) (h : Rm w a R) (hm : R.length = m) (n6 : n ≤ 6) (m6 : m ≤ 6) (hp : AllPn n (lsR R)) :
    Calls Try.prog 82 #[.int .i64 n, .slice a m cap] w fun e w' => e = .returned (.int .i64 0) ∧ Fr w w' [] := by
  have HR := Lib.hid h; have HM := Lib.hid hm; have HP := Lib.hid hp
  have g1 : decide ((n : Int) < 0) = false := decide_eq_false (by omega)
  have g2 : decide ((6 : Int) < (n : Int)) = false := decide_eq_false (by omega)
  have g3 : decide ((6 : Int) < (m : Int)) = false := decide_eq_false (by omega)
  clear h hm hp
  go_enter Try.func82, Try.ntmps82
  go_wp2_with fail
  clear g1 g2 g3
  go_loopw [18] (fun i wr => ∃ k : Nat, k ≤ m ∧ i = .int .i64 k ∧ Hid (Fr w wr [])) (fun i _ => m - (intOf i).toNat)
  case atStart => exact ⟨0, by omega, rfl, Lib.hid (Fr.start w)⟩
  case round =>
    obtain ⟨k, hk, rfl, HF⟩ := hrel
    by_cases hlt : k < m
    · have hkR : k < R.length := by rw [HM.out]; exact hlt
      obtain ⟨b1, o1, rfl, hb1, c1, s1⟩ := (HR.out.keep HF.out.bel).at k hkR
      have hpn := HP.out R[k].2.2 (List.mem_map.2 ⟨_, List.getElem_mem hkR, rfl⟩)
      obtain ⟨⟨p1, q1, l⟩, hp⟩ : ∃ p : Rw, R[k] = p := ⟨_, rfl⟩
      rw [hp] at c1 s1 hpn
      simp only [rv] at c1
      simp only at s1 hpn
      rw [hpn.1] at c1
      have HC := Lib.hid (permChk l n p1 q1 wr s1 hpn.1 hpn.2 (by omega))
      have d1 : (0 : Int) ≤ (k : Int) := by omega
      have d2 : (k : Int) < (m : Int) := by omega
      have g : ((n : Int) != (n : Int)) = false := by simp
      clear hp s1 hpn
      go_wp2_with fail
      refine HC.out.mono ?_; rintro e w2 ⟨rfl, hf2⟩
      have HF2 := Lib.hid (HF.out.keep hf2.bel)
      clear hf2
      go_wp2_with fail
      exact ⟨⟨k + 1, by omega, by simp, HF2⟩, by simp only [intOf]; omega⟩
    · obtain rfl : k = m := by omega
      go_wp2_with fail
      go_ret
      exact ⟨rfl, HF.out⟩
end Go.Proofs.Ytooghdnlaonkaaa
/- A map of the call's own beside slices: what a call leaves alone. -/
namespace Go.Proofs.Ytooghdnlaonkaaa
open Go.RowKit Go.Maps

def eMapQ (b : Nat) (xs : List Value) : Big := ⟨3, 0, 0, .map (some b), xs⟩
def noMapQ (e : Big) : Bool := match e.v with | .map _ => false | _ => true
theorem Fg.newMapQ {w0 w : World} {B : List Big} (h : Fg w0 w B) {N : Nat} (hN : w.heap.size = N) : Fg w0 (w.alloc (.map #[] 0)) (eMapQ N (mapV #[] 0) :: B) := by
  subst hN
  have ha := h.alloc (.map #[] 0)
  refine ⟨ha.bel, fun e he => ?_, List.pairwise_cons.2 ⟨fun b hb => .inl rfl, h.far⟩⟩
  rcases List.mem_cons.1 he with rfl | he
  · exact ⟨h.bel.size, #[], 0, (MapKept.heap_alloc w _).1, rfl⟩
  · exact ha.own e he
theorem Fg.mapAtQ {w0 w : World} {B : List Big} (h : Fg w0 w B) {b : Nat} {xs : List Value} (he : eMapQ b xs ∈ B) : ∃ es clock, w.heap[b]? = some (.map es clock) ∧ xs = mapV es clock ∧ w0.heap.size ≤ b := by
  obtain ⟨h1, es, clock, h2, h3⟩ : w0.heap.size ≤ b ∧ ∃ es clock, w.heap[b]? = some (.map es clock) ∧ xs = mapV es clock := h.own _ he
  exact ⟨es, clock, h2, h3, h1⟩
theorem Fg.setMapQ {w0 w w' : World} {B : List Big} {b : Nat} {xs : List Value} (h : Fg w0 w (eMapQ b xs :: B)) (hB : B.all noMapQ = true) (hg : w.grownBy w' (some b)) (hw : ∃ es clock, w'.heap[b]? = some (.map es clock)) : ∃ ys, Fg w0 w' (eMapQ b ys :: B) := by
  obtain ⟨es, clock, h2, -, h1⟩ := h.mapAtQ List.mem_cons_self
  obtain ⟨es', clock', h3⟩ := hw
  refine ⟨mapV es' clock', ⟨Below.grown (row := some b) h.bel hg h.bel.size (fun k hk => by cases hk; exact h1), fun e he => ?_, List.pairwise_cons.2 ⟨fun b hb => .inl rfl, (List.pairwise_cons.1 h.far).2⟩⟩⟩
  rcases List.mem_cons.1 he with rfl | he
  · exact ⟨h1, es', clock', h3, rfl⟩
  · have hn := List.all_eq_true.1 hB e he
    have ho := h.own e (List.mem_cons_of_mem _ he)
    unfold noMapQ at hn
    unfold Big.own at ho
    split at ho
    · rename_i b' hb'
      rw [hb'] at hn; cases hn
    · refine Big.ofRow (World.ownsRow.kept ho hg ?_)
      by_cases hv : e.v.ownBlock = none
      · exact .inl hv
      · refine .inr fun e2 => ?_
        exact ownsRow_notMap ho b e2 es clock h2
theorem map_keptQ {w0 w w' : World} {B C : List Big} {b : Nat} {xs : List Value} (h : Fg w0 w B) (h' : Fg w0 w' C) (he : eMapQ b xs ∈ B) (he' : eMapQ b xs ∈ C) : w'.heap[b]? = w.heap[b]? := by
  obtain ⟨es, c, h1, h2, -⟩ := h.mapAtQ he
  obtain ⟨es', c', h3, h4, -⟩ := h'.mapAtQ he'
  obtain ⟨rfl, rfl⟩ := mapV_inj (h2.symm.trans h4)
  rw [h1, h3]
/-- slices of one cell an element, told apart from the rest -/
theorem Fg.toFr {w0 w : World} {B : List Big} (h : Fg w0 w B) (L : List Ent) (hL : L.map Ent.big = B) (hn : B.all noMapQ = true) : Fr w0 w L := by
  subst hL
  refine ⟨h.bel, ⟨fun e he => ?_, (List.pairwise_map.1 h.far).imp fun h => h⟩⟩
  have ho := h.own e.big (List.mem_map_of_mem he)
  have hv := List.all_eq_true.1 hn e.big (List.mem_map_of_mem he)
  unfold Big.own at ho
  unfold noMapQ at hv
  split at ho
  · rename_i b hb
    rw [hb] at hv; cases hv
  · exact ho
end Go.Proofs.Ytooghdnlaonkaaa
