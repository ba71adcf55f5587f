/- Several of my texts in one: HalM, Str, StrX. -/
import Derived.Test.YtbolgfiafbhicaaDoorDF09
import Derived.Test.YtbolgfiafbhicaaDoorDF13
import Derived.Test.YtbolgfiafbhicaaDoorDF12
import Derived.Test.YtbolgfiafbhicaaDoorDF08
/- A hall, in plain words: members, loans. -/
namespace Go.Proofs.YtbolgfiafbhicaaDoor
open Go.RowKit

structure Mem where
  nm : ByteArray
  tk : Int
  wn : Int
structure Loan where
  fr : ByteArray
  to : ByteArray
  n : Int
def memC (m : Mem) : List Value := [.string m.nm, .int .i64 m.tk, .int .i64 m.wn]
def loanC (l : Loan) : List Value := [.string l.fr, .string l.to, .int .i64 l.n]
/-- structs laid one behind the other -/
def rowsC {α : Type} (f : α → List Value) : List α → List Value
  | [] => []
  | x :: l => f x ++ rowsC f l
theorem rowsC_len {α : Type} {f : α → List Value} {c : Nat} (hf : ∀ x, (f x).length = c) : ∀ l : List α, (rowsC f l).length = l.length * c
  | [] => by simp [rowsC]
  | x :: l => by rw [rowsC, List.length_append, hf, rowsC_len hf l, List.length_cons, Nat.add_mul]; omega
theorem rowsC_app {α : Type} (f : α → List Value) : ∀ a b : List α, rowsC f (a ++ b) = rowsC f a ++ rowsC f b
  | [], b => rfl
  | x :: a, b => by rw [List.cons_append, rowsC, rowsC, rowsC_app f a b, List.append_assoc]
theorem rowsC_one {α : Type} (f : α → List Value) (x : α) : rowsC f [x] = f x := by simp [rowsC]
theorem rowsC_get {α : Type} {f : α → List Value} {c : Nat} (hf : ∀ x, (f x).length = c) : ∀ (l : List α) (i j : Nat) (x : α), l[i]? = some x → j < c → (rowsC f l)[i * c + j]? = (f x)[j]?
  | [], i, j, x, h, _ => by simp at h
  | y :: l, 0, j, x, h, hj => by
    have : y = x := by simpa using h
    subst this
    rw [rowsC, Nat.zero_mul, Nat.zero_add, List.getElem?_append_left (by rw [hf]; exact hj)]
  | y :: l, i + 1, j, x, h, hj => by
    rw [rowsC, List.getElem?_append_right (by rw [hf, Nat.add_mul]; omega), hf, show (i + 1) * c + j - c = i * c + j by rw [Nat.add_mul]; omega]
    exact rowsC_get hf l i j x (by simpa using h) hj
theorem rowsC_set {α : Type} {f : α → List Value} {c : Nat} (hf : ∀ x, (f x).length = c) : ∀ (l : List α) (i j : Nat) (x y : α) (v : Value), l[i]? = some x → j < c → (f x).set j v = f y → (rowsC f l).set (i * c + j) v = rowsC f (l.set i y)
  | [], i, j, x, y, v, h, _, _ => by simp at h
  | z :: l, 0, j, x, y, v, h, hj, e => by
    have : z = x := by simpa using h
    subst this
    rw [rowsC, Nat.zero_mul, Nat.zero_add, List.set_append_left _ _ (by rw [hf]; exact hj), e]; rfl
  | z :: l, i + 1, j, x, y, v, h, hj, e => by
    rw [rowsC, List.set_append_right _ _ (by rw [hf, Nat.add_mul]; omega), hf, show (i + 1) * c + j - c = i * c + j by rw [Nat.add_mul]; omega]
    rw [rowsC_set hf l i j x y v (by simpa using h) hj e]; rfl
theorem memC_len (m : Mem) : (memC m).length = 3 := rfl
theorem loanC_len (l : Loan) : (loanC l).length = 3 := rfl
/-- a small letter -/
def lowB (b : UInt8) : Bool := decide (97 ≤ b.toNat) && decide (b.toNat ≤ 122)
def namedB (s : ByteArray) : Bool := s.data.toList.all lowB && decide (0 < s.size) && decide (s.size ≤ 12)
/-- the place of a name among the members; their number, if it is not there -/
def findM (nm : ByteArray) : List Mem → Nat
  | [] => 0
  | m :: l => if m.nm = nm then 0 else findM nm l + 1
theorem findM_le (nm : ByteArray) : ∀ l, findM nm l ≤ l.length
  | [] => Nat.le_refl _
  | m :: l => by have := findM_le nm l; rw [findM, List.length_cons]; split <;> omega
structure HSt where
  M : List Mem
  L : List Loan
end Go.Proofs.YtbolgfiafbhicaaDoor
/- Contracts of package stride, at tickets that are right. -/
namespace Go.Proofs.YtbolgfiafbhicaaDoor
open Go.RowKit

theorem mul_bdS {a b m k : Int} (h1 : 0 ≤ a) (h2 : a ≤ m) (h3 : 0 ≤ b) (h4 : b ≤ k) (hm : 0 ≤ m) : 0 ≤ a * b ∧ a * b ≤ m * k := by
  refine ⟨Int.mul_nonneg h1 h3, ?_⟩
  exact Int.le_trans (Int.mul_le_mul_of_nonneg_right h2 h3) (Int.mul_le_mul_of_nonneg_left h4 hm)

set_option maxRecDepth 100000 in
set_option maxHeartbeats 2000000 in
theorem strNxt (l had : List Int) (n : Nat) (a b : Option Addr) (ca cb : Nat) (w : World) (h : Sa w a (ints l)) (h' : Sa w b (ints had)) (hn : l.length = n) (hn' : had.length = n) (hp : TkOk l)
    (hh : ∀ j, j < n → 0 ≤ nth had j ∧ nth had j ≤ 1000000000) :
    Calls Tryd.prog 81 #[.slice a n ca, .slice b n cb] w fun e w' => e = .returned (.int .i64 (bestL l had n)) ∧ Fr w w' [] := by
  have hn8 := hp.1
  rw [hn] at hn8
  have HN := Lib.hid hn; have HN' := Lib.hid hn'; have HS := Lib.hid h; have HS' := Lib.hid h'; have HP := Lib.hid hp; have HH := Lib.hid hh
  clear hn hn' h h' hp hh
  go_enter Tryd.func81, Tryd.ntmps81
  go_wp2_with fail
  go_loopw [5, 10] (fun be i wr => ∃ k : Nat, k ≤ n ∧ i = .int .i64 k ∧ be = .int .i64 (bestL l had k) ∧ Fr w wr []) (fun _ i _ => n - (intOf i).toNat)
  case atStart => exact ⟨0, by omega, rfl, rfl, Fr.start w⟩
  case round =>
    obtain ⟨k, hk, rfl, rfl, hfr⟩ := hrel
    by_cases hlt : k < n
    · obtain ⟨b1, o1, rfl, hb1, hc1⟩ := (hfr.old HS.out).int k (by rw [HN.out]; exact hlt)
      obtain ⟨p1, p2⟩ := HP.out.2 k (by rw [HN.out]; exact hlt)
      have hbd := bestL_lt l had k
      have hst : (0 < nth l k ∧ (bestL l had k < 0 ∨ nth had k * nth l (bestL l had k).toNat < nth had (bestL l had k).toNat * nth l k) → bestL l had (k + 1) = k) ∧ (¬ (0 < nth l k ∧ (bestL l had k < 0 ∨ nth had k * nth l (bestL l had k).toNat < nth had (bestL l had k).toNat * nth l k)) → bestL l had (k + 1) = bestL l had k) :=
        ⟨fun h => if_pos h, fun h => if_neg h⟩
      obtain ⟨x, hx⟩ : ∃ x, nth l k = x := ⟨_, rfl⟩
      rw [hx] at hc1 p1 p2 hst
      obtain ⟨B, hB⟩ : ∃ B, bestL l had k = B := ⟨_, rfl⟩
      rw [hB] at hst hbd ⊢
      clear hx hB
      have d1 : (0 : Int) ≤ (k : Int) := by omega
      have d2 : (k : Int) < (n : Int) := by omega
      have HF := Lib.hid hfr
      clear hfr
      by_cases hx0 : 0 < x
      · have c1 : decide (0 < x) = true := decide_eq_true hx0
        by_cases hB0 : B < 0
        · have c2 : decide (B < 0) = true := decide_eq_true hB0
          replace hst := hst.1 ⟨hx0, .inl hB0⟩
          have HST := Lib.hid hst
          clear hst
          go_wp2_with fail
          go_quiet (fail)
          go_wp2_with fail
          go_roundw
          case rel => exact ⟨k + 1, by omega, by go_num, val_int HST.out.symm, HF.out.drewN _⟩
          case measure => simp only [intOf]; omega
        · obtain ⟨β, rfl⟩ : ∃ β : Nat, B = β := ⟨B.toNat, by omega⟩
          simp only [Int.toNat_natCast] at hst
          have hβ : β < k := by omega
          obtain ⟨b2, o2, rfl, hb2, hc2⟩ := (HF.out.old HS'.out).int k (by rw [HN'.out]; exact hlt)
          have hc3 := ((HF.out.old HS'.out).int β (by rw [HN'.out]; omega))
          have hc4 := ((HF.out.old HS.out).int β (by rw [HN.out]; omega))
          obtain ⟨_, _, e3, _, hc3⟩ := hc3
          obtain ⟨_, _, e4, _, hc4⟩ := hc4
          cases e3
          cases e4
          obtain ⟨r1, r2⟩ := HH.out k hlt
          obtain ⟨r3, r4⟩ := HH.out β (by omega)
          obtain ⟨r5, r6⟩ := HP.out.2 β (by rw [HN.out]; omega)
          generalize nth had k = hk' at *
          generalize nth had β = hb' at *
          generalize nth l β = lb' at *
          have m1 := mul_bdS r1 r2 r5 r6 (by omega)
          have m2 := mul_bdS r3 r4 p1 p2 (by omega)
          obtain ⟨q1, P1⟩ : ∃ q, hk' * lb' = q := ⟨_, rfl⟩
          obtain ⟨q2, P2⟩ : ∃ q, hb' * x = q := ⟨_, rfl⟩
          rw [P1] at m1 hst
          rw [P2] at m2 hst
          obtain ⟨m11, m12⟩ := m1
          obtain ⟨m21, m22⟩ := m2
          have c2 : decide ((β : Int) < 0) = false := decide_eq_false (by omega)
          have d3 : (0 : Int) ≤ (β : Int) := by omega
          have d4 : (β : Int) < (n : Int) := by omega
          by_cases hq : q1 < q2
          · have c3 : decide (q1 < q2) = true := decide_eq_true hq
            replace hst := hst.1 ⟨hx0, .inr hq⟩
            have HST := Lib.hid hst
            clear hst hbd
            go_wp2_with fail
            go_quiet (fail)
            go_wp2_with fail
            go_roundw
            case rel => exact ⟨k + 1, by omega, by go_num, val_int HST.out.symm, HF.out.drewN _⟩
            case measure => simp only [intOf]; omega
          · have c3 : decide (q1 < q2) = false := decide_eq_false hq
            replace hst := hst.2 (by omega)
            have HST := Lib.hid hst
            clear hst hbd
            go_wp2_with fail
            go_quiet (fail)
            go_wp2_with fail
            go_roundw
            case rel => exact ⟨k + 1, by omega, by go_num, val_int HST.out.symm, HF.out.drewN _⟩
            case measure => simp only [intOf]; omega
      · have c1 : decide (0 < x) = false := decide_eq_false hx0
        replace hst := hst.2 (by omega)
        have HST := Lib.hid hst
        clear hst
        go_wp2_with fail
        go_quiet (fail)
        go_wp2_with fail
        go_roundw
        case rel => exact ⟨k + 1, by omega, by go_num, val_int HST.out.symm, HF.out.drewN _⟩
        case measure => simp only [intOf]; omega
    · obtain rfl : k = n := by omega
      go_wp2_with fail
      go_ret
      exact ⟨rfl, hfr⟩

def NxSaid (B : Int) (w : World) (e : Ending) (w' : World) : Prop :=
  ((B < 0 ∧ e = .returned (.tuple #[.int .i64 0, .int .i64 4])) ∨ (0 ≤ B ∧ e = .returned (.tuple #[.int .i64 B, .int .i64 0]))) ∧ Fr w w' []
set_option maxRecDepth 100000 in
set_option maxHeartbeats 2000000 in
theorem strNext (l had : List Int) (n : Nat) (a b : Option Addr) (ca cb : Nat) (w : World) (h : Sa w a (ints l)) (h' : Sa w b (ints had)) (hn : l.length = n) (hn' : had.length = n) (hp : TkOk l)
    (hh : ∀ j, j < n → 0 ≤ nth had j ∧ nth had j ≤ 1000000000) :
    Calls Tryd.prog 54 #[.slice a n ca, .slice b n cb] w (NxSaid (bestL l had n) w) := by
  have hn8 := hp.1
  rw [hn] at hn8
  have HN := Lib.hid hn; have HN' := Lib.hid hn'; have HS := Lib.hid h; have HS' := Lib.hid h'; have HP := Lib.hid hp; have HH := Lib.hid hh
  clear hn hn' h h' hp hh
  go_enter Tryd.func54, Tryd.ntmps54
  go_wp2_with fail
  refine (lotChk l n _ _ _ HS.out HN.out HP.out).mono ?_; rintro e w' ⟨rfl, rfl⟩
  have q0 : ((n : Int) != (n : Int)) = false := by simp
  go_wp2_with fail
  go_loop [22] (fun i => ∃ k : Nat, k ≤ n ∧ i = .int .i64 k) (fun i => n - (intOf i).toNat)
  case atStart => exact ⟨0, by omega, rfl⟩
  case round =>
    obtain ⟨k, hk, rfl⟩ := hrel
    by_cases hlt : k < n
    · obtain ⟨b', off, rfl, hb, hc⟩ := HS'.out.int k (by rw [HN'.out]; exact hlt)
      obtain ⟨p1, p2⟩ := HH.out k hlt
      generalize nth had k = x at *
      go_wp2_with fail
      exact ⟨⟨k + 1, by omega, by simp⟩, by simp only [intOf]; omega⟩
    · go_wp2_with fail
      refine (strNxt l had n _ _ _ _ _ HS.out HS'.out HN.out HN'.out HP.out HH.out).mono ?_; rintro e w1 ⟨rfl, hf⟩
      have hbd := bestL_lt l had n
      obtain ⟨B, hB⟩ : ∃ B, bestL l had n = B := ⟨_, rfl⟩
      rw [hB] at hbd ⊢
      have HB := Lib.hid hB
      clear hB
      obtain ⟨hb1, hb2⟩ := hbd
      by_cases hB : B < 0
      · go_wp2_with fail
        go_ret2
        rw [HB.out]; exact ⟨.inl ⟨hB, rfl⟩, hf⟩
      · go_wp2_with fail
        go_ret2
        rw [HB.out]; exact ⟨.inr ⟨by omega, rfl⟩, hf⟩

def NoSaid (t : Nat) (w : World) (e : Ending) (w' : World) : Prop :=
  ((t = 0 ∧ e = .returned (.tuple #[.slice none 0 0, .int .i64 0])) ∨ (0 < t ∧ e = .returned (.tuple #[.slice none 0 0, .int .i64 4]))) ∧ Fr w w' []
end Go.Proofs.YtbolgfiafbhicaaDoor
/- stride.Next for all counts from 0 on. -/
namespace Go.Proofs.YtbolgfiafbhicaaDoor
open Go.RowKit

set_option maxRecDepth 100000 in
set_option maxHeartbeats 2000000 in
theorem strNextX (l had : List Int) (n : Nat) (a b : Option Addr) (ca cb : Nat) (w : World) (h : Sa w a (ints l)) (h' : Sa w b (ints had)) (hn : l.length = n) (hn' : had.length = n) (hp : TkOk l)
    (hh : ∀ j, j < n → 0 ≤ nth had j) (hx : ∃ j, j < n ∧ 1000000000 < nth had j) :
    Calls Tryd.prog 54 #[.slice a n ca, .slice b n cb] w fun e w' => e = .returned (.tuple #[.int .i64 0, .int .i64 1]) ∧ Fr w w' [] := by
  have hn8 := hp.1
  rw [hn] at hn8
  have HN := Lib.hid hn; have HN' := Lib.hid hn'; have HS := Lib.hid h; have HS' := Lib.hid h'; have HP := Lib.hid hp; have HH := Lib.hid hh; have HX := Lib.hid hx
  clear hn hn' h h' hp hh hx
  go_enter Tryd.func54, Tryd.ntmps54
  go_wp2_with fail
  refine (lotChk l n _ _ _ HS.out HN.out HP.out).mono ?_; rintro e w' ⟨rfl, rfl⟩
  have q0 : ((n : Int) != (n : Int)) = false := by simp
  go_wp2_with fail
  go_loop [22] (fun i => ∃ k : Nat, k ≤ n ∧ i = .int .i64 k ∧ Hid (∀ j, j < k → nth had j ≤ 1000000000)) (fun i => n - (intOf i).toNat)
  case atStart => exact ⟨0, by omega, rfl, Lib.hid fun j hj => by omega⟩
  case round =>
    obtain ⟨k, hk, rfl, HK⟩ := hrel
    by_cases hlt : k < n
    · obtain ⟨b', off, rfl, hb, hc⟩ := HS'.out.int k (by rw [HN'.out]; exact hlt)
      have p1 := HH.out k hlt
      obtain ⟨x, hx⟩ : ∃ x, nth had k = x := ⟨_, rfl⟩
      rw [hx] at hc p1
      have HXX := Lib.hid hx
      clear hx
      have d0 : decide (x < 0) = false := decide_eq_false (by omega)
      by_cases hbig : 1000000000 < x
      · have d1 : decide (1000000000 < x) = true := decide_eq_true hbig
        go_wp2_with fail
        go_ret2
        exact ⟨rfl, Fr.start _⟩
      · have d1 : decide (1000000000 < x) = false := decide_eq_false hbig
        go_wp2_with fail
        exact ⟨⟨k + 1, by omega, by simp, Lib.hid fun j hj => by
          by_cases e : j = k
          · rw [e, HXX.out]; omega
          · exact HK.out j (by omega)⟩, by simp only [intOf]; omega⟩
    · obtain ⟨j, h1, h2⟩ := HX.out
      have := HK.out j (by omega)
      omega
/-- whose turn it is, and with which error -/
def nextW (l had : List Int) : Int × Int :=
  if had.any (fun x => decide (1000000000 < x)) then (0, 1) else if bestL l had l.length < 0 then (0, 4) else (bestL l had l.length, 0)
theorem strNextAny (l had : List Int) (n : Nat) (a b : Option Addr) (ca cb : Nat) (w : World) (h : Sa w a (ints l)) (h' : Sa w b (ints had)) (hn : l.length = n) (hn' : had.length = n) (hp : TkOk l)
    (hh : ∀ j, j < n → 0 ≤ nth had j) :
    Calls Tryd.prog 54 #[.slice a n ca, .slice b n cb] w fun e w' => e = .returned (.tuple #[.int .i64 (nextW l had).1, .int .i64 (nextW l had).2]) ∧ Fr w w' [] := by
  cases ha : had.any (fun x => decide (1000000000 < x))
  · have hall : ∀ j, j < n → nth had j ≤ 1000000000 := fun j hj => by
      rw [List.any_eq_false] at ha
      have := ha (nth had j) (nth_mem _ _ (by omega))
      simpa using this
    refine (strNext l had n a b ca cb w h h' hn hn' hp (fun j hj => ⟨hh j hj, hall j hj⟩)).mono ?_
    rintro e w' ⟨hx, hf⟩
    refine ⟨?_, hf⟩
    unfold nextW
    rw [ha, hn]
    rcases hx with ⟨h1, rfl⟩ | ⟨h1, rfl⟩
    · rw [if_pos h1]; rfl
    · rw [if_neg (show ¬ bestL l had n < 0 by omega)]; rfl
  · have e : nextW l had = (0, 1) := by unfold nextW; rw [ha]; rfl
    rw [e]
    obtain ⟨x, hx, hb⟩ := List.any_eq_true.1 ha
    obtain ⟨j, hj, rfl⟩ := List.getElem_of_mem hx
    have e2 : nth had j = had[j] := by simp [nth, hj]
    refine strNextX l had n a b ca cb w h h' hn hn' hp hh ⟨j, by omega, ?_⟩
    rw [e2]; simpa using hb
end Go.Proofs.YtbolgfiafbhicaaDoor
