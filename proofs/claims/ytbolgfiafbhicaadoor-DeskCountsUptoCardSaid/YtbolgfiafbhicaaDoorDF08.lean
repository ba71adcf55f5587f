/- Several of my texts in one: Arr4, LotE. -/
import Derived.Test.YtbolgfiafbhicaaDoorDF06
import Derived.Test.YtbolgfiafbhicaaDoorDF07
/- append where the block's number is spelled by the walk. -/
namespace Go.Proofs.YtbolgfiafbhicaaDoor
open Go.RowKit

theorem wpList_pushInt' {ops : Array Oper} {rest : List Oper} {o : Oper} {a : Act} {Q : Exit → Act → World → Prop} {w0 w : World} (hgd : o.guard = none) (s x : Operand)
    (ho : o.op = .call { callee := .builtin .append, args := #[s, x], argTypes := #[76, 76] })
    (ad : Option Addr) (n cap : Nat) (l : List Int) (y : Int) (L : List Ent) (N : Nat) (hN : w.heap.size = N) (hs : a.eval s = .slice ad n cap) (hF : Fr w0 w (⟨3, .slice ad n cap, ints l⟩ :: L))
    (hx : a.eval x = .slice (some ⟨N, 0, none⟩) 1 1) (hlen : n ≤ 1000000)
    (h : ∀ ad' cap' w', Fr w0 w' (⟨3, .slice ad' (n + 1) cap', ints (l ++ [y])⟩ :: L) → N < w'.heap.size → wpList Tryd.prog ops Q rest (a.put o.dst (.slice ad' (n + 1) cap')) w') :
    wpList Tryd.prog ops Q (o :: rest) a (w.alloc (.cells #[.int .i64 y] 3)) := by
  subst hN
  exact wpList_pushInt hgd s x ho ad n cap l y L hs hF hx hlen h
/-- append of one cell of any type -/
theorem wpList_push' {ops : Array Oper} {rest : List Oper} {o : Oper} {a : Act} {Q : Exit → Act → World → Prop} {w0 w : World} (hgd : o.guard = none) (s x : Operand) (S T : TypeId) (z : Value) (bytes : Nat)
    (hS : Tryd.prog.underlying S = some (.slice T)) (hT : (Tryd.prog.info? T).map (fun i => (i.zero, i.size, i.bytes)) = some (some z, 1, bytes)) (hz : z.cells.size = 1) (hby : bytes ≤ 1000)
    (ho : o.op = .call { callee := .builtin .append, args := #[s, x], argTypes := #[S, S] })
    (ad : Option Addr) (n cap : Nat) (xs : List Value) (y : Value) (L : List Ent) (N : Nat) (hN : w.heap.size = N) (hs : a.eval s = .slice ad n cap) (hF : Fr w0 w (⟨T, .slice ad n cap, xs⟩ :: L))
    (hx : a.eval x = .slice (some ⟨N, 0, none⟩) 1 1) (hy : y.oneCell' = true) (hlen : n ≤ 1000000)
    (h : ∀ ad' cap' w', Fr w0 w' (⟨T, .slice ad' (n + 1) cap', xs ++ [y]⟩ :: L) → N < w'.heap.size → wpList Tryd.prog ops Q rest (a.put o.dst (.slice ad' (n + 1) cap')) w') :
    wpList Tryd.prog ops Q (o :: rest) a (w.alloc (.cells #[y] T)) := by
  subst hN
  exact wpList_push hgd s x S T z bytes hS hT hz hby ho ad n cap xs y L hs hF hx hy hlen h
theorem intElem : Tryd.prog.elem 76 = 3 := by kernel_rfl
/-- x[k:], of any element of one cell -/
theorem slice_fromT (S T : TypeId) (hS : Tryd.prog.underlying S = some (.slice T)) (hE : Tryd.prog.elem S = T) (hT : (Tryd.prog.info? T).map (fun i => i.size) = some 1)
    (ad : Option Addr) (n cap k : Nat) (hk : k ≤ n) (hc : n ≤ cap) (xs : List Value) (hx : xs.length = n) :
    ∃ ad' cap', (∀ W, Sem.run Tryd.prog (Instr.slice S (.slice ad n cap) (some (.int .i64 (k : Int))) none none) W = .ok (.slice ad' (n - k) cap') W) ∧ (∀ W, Sa W ad xs → Sa W ad' (xs.drop k)) ∧ n - k ≤ cap' := by
  have ht : Tryd.prog.underlying S = some (.slice (Tryd.prog.elem S)) := by rw [hE]; exact hS
  have hsz : ∀ W, Sem.run Tryd.prog (sizeOf (Tryd.prog.elem S)) W = .ok 1 W := fun W => by
    rw [hE]
    cases hi : Tryd.prog.info? T with
    | none => rw [hi] at hT; cases hT
    | some i => rw [hi] at hT; simp at hT; simp [sizeOf, typeInfo, go_sem, hi, hT]
  refine ⟨if cap = k then ad else ad.map (·.add (k * 1)), cap - k, fun W => ?_, fun W hW h0 => ?_, by omega⟩
  · rw [run_slice_l W S ad n cap ht .i64 k (by omega) (by omega), hsz]
    simp [Result.andThen, sliced]
  · rw [List.length_drop] at h0
    rw [if_neg (by omega)]
    obtain ⟨b, off, rfl, _, _⟩ := hW (by omega)
    have := hW.drop k
    have e : (some ⟨b, off, none⟩ : Option Addr).map (·.add (k * 1)) = some ⟨b, off + k, none⟩ := by
      simp only [Option.map_some, Nat.mul_one]; unfold Addr.add; split
      · next h => simp_all
      · rfl
    rw [e]; exact this (by rw [List.length_drop]; exact h0)
/-- x[lo:hi] -/
theorem slice_midT (S T : TypeId) (hS : Tryd.prog.underlying S = some (.slice T)) (hE : Tryd.prog.elem S = T) (hT : (Tryd.prog.info? T).map (fun i => i.size) = some 1)
    (ad : Option Addr) (n cap lo k : Nat) (hk : lo + k ≤ n) (hc : n ≤ cap) (xs : List Value) (hx : xs.length = n) :
    ∃ ad' cap', (∀ W, Sem.run Tryd.prog (Instr.slice S (.slice ad n cap) (some (.int .i64 (lo : Int))) (some (.int .i64 ((lo : Int) + (k : Int)))) none) W = .ok (.slice ad' k cap') W) ∧ (∀ W, Sa W ad xs → Sa W ad' ((xs.drop lo).take k)) ∧ k ≤ cap' := by
  have ht : Tryd.prog.underlying S = some (.slice (Tryd.prog.elem S)) := by rw [hE]; exact hS
  have hsz : ∀ W, Sem.run Tryd.prog (sizeOf (Tryd.prog.elem S)) W = .ok 1 W := fun W => by
    rw [hE]
    cases hi : Tryd.prog.info? T with
    | none => rw [hi] at hT; cases hT
    | some i => rw [hi] at hT; simp at hT; simp [sizeOf, typeInfo, go_sem, hi, hT]
  refine ⟨if cap = lo then ad else ad.map (·.add (lo * 1)), cap - lo, fun W => ?_, fun W hW h0 => ?_, by omega⟩
  · rw [run_slice_lh W S ad n cap ht .i64 .i64 lo ((lo : Int) + (k : Int)) (by omega) (by omega) (by omega), hsz]
    have e1 : ((lo : Int) + (k : Int)).toNat = lo + k := by omega
    simp only [Result.andThen, sliced, e1, Int.toNat_natCast]
    rw [Nat.add_sub_cancel_left]
  · rw [List.length_take, List.length_drop] at h0
    rw [if_neg (by omega)]
    obtain ⟨b, off, rfl, _, _⟩ := hW (by omega)
    have := (hW.drop lo).take k
    have e : (some ⟨b, off, none⟩ : Option Addr).map (·.add (lo * 1)) = some ⟨b, off + lo, none⟩ := by
      simp only [Option.map_some, Nat.mul_one]; unfold Addr.add; split
      · next h => simp_all
      · rfl
    rw [e]; exact this (by rw [List.length_take, List.length_drop]; exact h0)
end Go.Proofs.YtbolgfiafbhicaaDoor
/- lottery.Lend where it may not be: which error. -/
namespace Go.Proofs.YtbolgfiafbhicaaDoor
open Go.RowKit

def lendErr (l : List Int) (f t k : Int) : Int := if f < 0 ∨ (l.length : Int) ≤ f ∨ t < 0 ∨ (l.length : Int) ≤ t ∨ k < 0 then 1 else if nth l f.toNat < k then 4 else 9
set_option maxRecDepth 100000 in
set_option maxHeartbeats 4000000 in
theorem lotLend_err (l : List Int) (n : Nat) (a : Option Addr) (cap : Nat) (f t k : Int) (w : World) (h : Sa w a (ints l)) (hn : l.length = n) (hp : TkOk l) (hc : ¬ ∃ f' t', LendOk l f t k f' t') :
    Calls Tryd.prog 87 #[.slice a n cap, .int .i64 f, .int .i64 t, .int .i64 k] w fun e w' => e = .returned (.tuple #[.slice none 0 0, .int .i64 (lendErr l f t k)]) ∧ Fr w w' [] := by
  have hl := hp.1
  rw [hn] at hl
  have HN := Lib.hid hn; have HS := Lib.hid h; have HP := Lib.hid hp
  have HCK := fun W b => lotChk l n a cap W b hn hp
  have HCH := Lib.hid (lotChk l n a cap w h hn hp)
  by_cases b1 : f < 0 ∨ (n : Int) ≤ f ∨ t < 0 ∨ (n : Int) ≤ t ∨ k < 0
  · have HE : Hid (lendErr l f t k = 1) := Lib.hid (by unfold lendErr; rw [if_pos (by rw [hn]; exact b1)])
    clear hc hn h hp HCK
    rcases Int.lt_or_le f 0 with c1 | c1
    case' inl => have g1 : decide (f < 0) = true := decide_eq_true c1
    case' inr =>
      have g1 : decide (f < 0) = false := decide_eq_false (by omega)
      rcases Int.lt_or_le f n with c2 | c2
      case' inr => have g2 : decide ((n : Int) ≤ f) = true := decide_eq_true c2
      case' inl =>
        have g2 : decide ((n : Int) ≤ f) = false := decide_eq_false (by omega)
        rcases Int.lt_or_le t 0 with c3 | c3
        case' inl => have g3 : decide (t < 0) = true := decide_eq_true c3
        case' inr =>
          have g3 : decide (t < 0) = false := decide_eq_false (by omega)
          rcases Int.lt_or_le t n with c4 | c4
          case' inr => have g4 : decide ((n : Int) ≤ t) = true := decide_eq_true c4
          case' inl =>
            have g4 : decide ((n : Int) ≤ t) = false := decide_eq_false (by omega)
            have g5 : decide (k < 0) = true := decide_eq_true (by omega)
    all_goals
      clear b1
      go_enter Tryd.func87, Tryd.ntmps87
      go_wp2_with fail
      refine HCH.out.mono ?_; rintro e w' ⟨rfl, rfl⟩
      go_wp2_with fail
      go_ret2
      exact ⟨by rw [HE.out]; rfl, Fr.start w⟩
  · obtain ⟨f', rfl⟩ : ∃ f' : Nat, f = f' := ⟨f.toNat, by omega⟩
    obtain ⟨t', rfl⟩ : ∃ t' : Nat, t = t' := ⟨t.toNat, by omega⟩
    have hf : f' < n := by omega
    have ht : t' < n := by omega
    have g1 : decide ((f' : Int) < 0) = false := decide_eq_false (by omega)
    have g2 : decide (n ≤ f') = false := decide_eq_false (by omega)
    have g3 : decide ((t' : Int) < 0) = false := decide_eq_false (by omega)
    have g4 : decide (n ≤ t') = false := decide_eq_false (by omega)
    have g5 : decide (k < 0) = false := decide_eq_false (by omega)
    obtain ⟨p1, p2⟩ := hp.2 f' (by omega)
    obtain ⟨b, off, rfl, hb, hcell⟩ := h.int f' (by omega)
    have e1 : (f' : Int) < (n : Int) := by omega
    have e2 : (t' : Int) < (n : Int) := by omega
    by_cases hk : k ≤ nth l f'
    · have hbad : 100 < nth (l.set f' (nth l f' - k)) t' + k := by
        rcases Int.lt_or_le 100 (nth (l.set f' (nth l f' - k)) t' + k) with h1 | h1
        · exact h1
        · exact absurd ⟨f', t', rfl, rfl, by omega, by omega, by omega, hk, h1⟩ hc
      have q : ∀ j, j < l.length → 0 ≤ nth (l.set f' (nth l f' - k)) j ∧ nth (l.set f' (nth l f' - k)) j ≤ 100 := fun j hj => by
        rw [nth_set _ _ _ _ (by omega)]
        have := hp.2 j hj
        split <;> omega
      have qt := q t' (by omega)
      have HE : Hid (lendErr l f' t' k = 9) := Lib.hid (by unfold lendErr; rw [if_neg (by rw [hn]; exact b1), Int.toNat_natCast, if_neg (by omega)])
      have HSA := Lib.hid (h.alloc (.cells #[] 3))
      have HF := Lib.hid ((Fr.start w).lit [] #[] rfl 0 rfl (by omega) 3)
      have HNI := Lib.hid (show (ints l).length = n from by rw [ints_len, hn])
      obtain ⟨x, hx⟩ : ∃ x, nth l f' = x := ⟨_, rfl⟩
      rw [hx] at p1 p2 hk hbad qt hcell
      have HX := Lib.hid hx
      obtain ⟨y, hy⟩ : ∃ y, nth (l.set f' (x - k)) t' = y := ⟨_, rfl⟩
      rw [hy] at hbad qt
      have HY := Lib.hid hy
      obtain ⟨qt1, qt2⟩ := qt
      have g6 : decide (x < k) = false := decide_eq_false (by omega)
      have g7 : decide ((100 : Int) < y + k) = true := decide_eq_true hbad
      clear hn h hp hx hy q hb hc HCK b1
      go_enter Tryd.func87, Tryd.ntmps87
      go_wp2_with fail
      refine HCH.out.mono ?_; rintro e w' ⟨rfl, rfl⟩
      go_wp2_with (with_reducible refine at_slot 47 ?_; go_must (refine wpList_copyOf rfl (.tmp 45) (.tmp 46) rfl _ _ n cap l [] rfl HF.out rfl HSA.out HNI.out (fun e => by cases e) (by omega) ?_; intro ad2 cp2 w2 hf2 _; obtain ⟨g, rfl, -⟩ := hf2.openI f' (by rw [HN.out]; exact hf); obtain ⟨c1, z1, c2, z2, c3, hf3⟩ := lend_cells hf2 f' t' k x y (by rw [HN.out]; exact hf) (by rw [HN.out]; exact ht) HX.out HY.out; have HF3 := Lib.hid hf3; clear hf2 hf3))
      go_ret2
      exact ⟨by rw [HE.out]; rfl, HF3.out.below⟩
    · have HE : Hid (lendErr l f' t' k = 4) := Lib.hid (by unfold lendErr; rw [if_neg (by rw [hn]; exact b1), Int.toNat_natCast, if_pos (by omega)])
      obtain ⟨x, hx⟩ : ∃ x, nth l f' = x := ⟨_, rfl⟩
      rw [hx] at p1 p2 hk hcell
      have g6 : decide (x < k) = true := decide_eq_true (by omega)
      clear hn h hp hx hb hc HCK b1
      go_enter Tryd.func87, Tryd.ntmps87
      go_wp2_with fail
      refine HCH.out.mono ?_; rintro e w' ⟨rfl, rfl⟩
      go_wp2_with fail
      go_ret2
      exact ⟨by rw [HE.out]; rfl, Fr.start w⟩
end Go.Proofs.YtbolgfiafbhicaaDoor
