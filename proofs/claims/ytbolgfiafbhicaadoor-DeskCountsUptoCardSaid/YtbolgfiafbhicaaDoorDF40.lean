/- Several of my texts in one: DskM. -/
import Derived.Test.YtbolgfiafbhicaaDoorDF33
import Derived.Test.YtbolgfiafbhicaaDoorDF15
import Derived.Test.YtbolgfiafbhicaaDoorDF34
import Derived.Test.YtbolgfiafbhicaaDoorDF35
import Derived.Test.YtbolgfiafbhicaaDoorDF36
import Derived.Test.YtbolgfiafbhicaaDoorDF37
import Derived.Test.YtbolgfiafbhicaaDoorDF03
import Derived.Test.YtbolgfiafbhicaaDoorDF39
import Derived.Lib.SplitLaws
import Derived.Lib.IndexBytes
import Derived.Lib.ItoaNum
import Derived.Lib.Join
/- The desk in plain words: words of a line, numbers, what a line is answered. -/
namespace Go.Proofs.YtbolgfiafbhicaaDoor
open Go.RowKit

/-! texts cut at a byte -/
def bs (l : List UInt8) : ByteArray := ⟨l.toArray⟩
theorem bs_data (l : List UInt8) : (bs l).data.toList = l := rfl
theorem bs_of (s : ByteArray) : bs s.data.toList = s := rfl
def cutAt (c : UInt8) : List UInt8 → List (List UInt8)
  | [] => [[]]
  | b :: l => if b = c then [] :: cutAt c l else match cutAt c l with
    | [] => [[b]]
    | x :: r => (b :: x) :: r
theorem cutAt_ne (c : UInt8) : ∀ l, cutAt c l ≠ []
  | [] => by simp [cutAt]
  | b :: l => by
    rw [cutAt]
    split
    · simp
    · split <;> simp
theorem cutAt_app (c : UInt8) (b : List UInt8) : ∀ a, cutAt c (a ++ c :: b) = cutAt c a ++ cutAt c b
  | [] => by simp [cutAt]
  | x :: a => by
    have ih := cutAt_app c b a
    rw [List.cons_append, cutAt, cutAt, ih]
    by_cases h : x = c
    · rw [if_pos h, if_pos h]; rfl
    · rw [if_neg h, if_neg h]
      cases hc : cutAt c a with
      | nil => exact absurd hc (cutAt_ne c a)
      | cons y r => rfl
theorem cutAt_free (c : UInt8) : ∀ l, ∀ x ∈ cutAt c l, c ∉ x
  | [], x, hx => by simp [cutAt] at hx; subst hx; simp
  | b :: l, x, hx => by
    have ih := cutAt_free c l
    rw [cutAt] at hx
    split at hx
    · rcases List.mem_cons.1 hx with rfl | hx
      · simp
      · exact ih x hx
    · rename_i hb
      split at hx
      · rename_i hn; exact absurd hn (cutAt_ne c l)
      · rename_i y r hy
        rcases List.mem_cons.1 hx with rfl | hx
        · have := ih y (by rw [hy]; exact List.mem_cons_self)
          simp only [List.mem_cons, not_or]
          exact ⟨fun e => hb e.symm, this⟩
        · exact ih x (by rw [hy]; exact List.mem_cons_of_mem _ hx)
theorem split_cut (c : UInt8) : ∀ s : List UInt8, Lib.splitK [c] 0 (s.count c) s = cutAt c s
  | [] => rfl
  | b :: l => by
    have ih := split_cut c l
    have hix : ∀ t, Lib.index t [c] = Lib.indexByte t c := fun t => Lib.index_one t c
    by_cases h : b = c
    · subst h
      rw [cutAt, if_pos rfl, List.count_cons_self, Lib.splitK, hix, Lib.indexByte]
      simp [ih]
    · rw [cutAt, if_neg h, List.count_cons_of_ne h, ← ih]
      cases hk : l.count c with
      | zero => simp [Lib.splitK]
      | succ k =>
        rw [Lib.splitK, Lib.splitK, hix, hix, Lib.indexByte]
        have hne : Lib.indexByte l c ≠ -1 := fun e => by
          have := List.count_pos_iff.1 (show 0 < l.count c by omega)
          obtain ⟨i, hi, e2⟩ := List.getElem_of_mem this
          exact Lib.indexByte_none e i (by rw [List.getElem?_eq_getElem hi, e2])
        obtain ⟨j, hj⟩ : ∃ j : Nat, Lib.indexByte l c = j := ⟨(Lib.indexByte l c).toNat, by have := Lib.indexByte_ge l c; omega⟩
        rw [hj]
        have e1 : ((j : Int) == -1) = false := by rw [beq_eq_false_iff_ne]; omega
        have e2 : ((j : Int) + 1 == -1) = false := by rw [beq_eq_false_iff_ne]; omega
        have e3 : ((j : Int) + 1).toNat = j + 1 := by omega
        have e4 : (b == c) = false := by rw [beq_eq_false_iff_ne]; exact h
        simp [e1, e2, e3, e4]
def linesB (c : UInt8) (s : ByteArray) : List ByteArray := Lib.splitB ⟨#[c]⟩ 0 (Lib.countB s ⟨#[c]⟩) s
theorem linesB_eq (c : UInt8) (s : ByteArray) : linesB c s = (cutAt c s.data.toList).map bs := by
  have h := Lib.splitB_data ⟨#[c]⟩ 0 (Lib.countB s ⟨#[c]⟩) s
  have e : Lib.countB s ⟨#[c]⟩ = s.data.toList.count c := Lib.count_one c s.data.toList
  rw [e] at h
  have h2 : (⟨#[c]⟩ : ByteArray).data.toList = [c] := rfl
  rw [h2, split_cut] at h
  rw [← h, List.map_map]
  unfold linesB
  rw [e]
  exact (List.map_id' _).symm.trans (List.map_congr_left fun x _ => (bs_of x).symm)
theorem linesB_len (c : UInt8) (s : ByteArray) : (linesB c s).length = Lib.countB s ⟨#[c]⟩ + 1 := by
  rw [linesB_eq, List.length_map, show Lib.countB s ⟨#[c]⟩ = s.data.toList.count c from Lib.count_one c s.data.toList]
  generalize s.data.toList = l
  induction l with
  | nil => rfl
  | cons b l ih =>
    rw [cutAt]
    by_cases h : b = c
    · subst h; rw [if_pos rfl, List.count_cons_self, List.length_cons, ih]
    · rw [if_neg h, List.count_cons_of_ne h]
      split
      · rename_i hn; exact absurd hn (cutAt_ne c l)
      · rename_i x r hx; rw [hx] at ih; simpa using ih
theorem linesB_app (c : UInt8) (a b : ByteArray) : linesB c (bs (a.data.toList ++ c :: b.data.toList)) = linesB c a ++ linesB c b := by
  rw [linesB_eq, linesB_eq, linesB_eq, bs_data, cutAt_app, List.map_append]
/-! numbers -/
def numV : List UInt8 → Int → Option Int
  | [], acc => some acc
  | c :: r, acc => if c.toNat < 48 ∨ 57 < c.toNat then none else numV r (10 * acc + ((c.toNat : Int) - 48))
def numB (s : ByteArray) : Option Int := if s.size < 1 ∨ 6 < s.size then none else numV s.data.toList 0
theorem numV_bd : ∀ (l : List UInt8) (acc v : Int) (B : Nat), 0 ≤ acc → acc < B → numV l acc = some v → 0 ≤ v ∧ v < (B * 10 ^ l.length : Nat)
  | [], acc, v, B, h0, h1, h => by
    simp only [numV, Option.some.injEq] at h
    subst h; simp; exact ⟨h0, h1⟩
  | c :: r, acc, v, B, h0, h1, h => by
    rw [numV] at h
    split at h
    · cases h
    · have := numV_bd r (10 * acc + ((c.toNat : Int) - 48)) v (B * 10) (by omega) (by omega) h
      rw [List.length_cons, Nat.pow_succ, Nat.mul_comm (10 ^ r.length) 10, ← Nat.mul_assoc]
      exact this
theorem numB_bd {s : ByteArray} {v : Int} (h : numB s = some v) : 0 ≤ v ∧ v ≤ 999999 := by
  unfold numB at h
  split at h
  · cases h
  · rename_i hs
    have := numV_bd s.data.toList 0 v 1 (by omega) (by omega) h
    have hl : s.data.toList.length ≤ 6 := by have : s.data.toList.length = s.size := by rw [Array.length_toList]; rfl
                                             omega
    have h2 : 10 ^ s.data.toList.length ≤ 10 ^ 6 := Nat.pow_le_pow_right (by omega) hl
    have h3 : (10 : Nat) ^ 6 = 1000000 := by decide
    rw [Nat.one_mul] at this
    omega
def numsB : List ByteArray → Option (List Int)
  | [] => some []
  | s :: r => match numB s with
    | none => none
    | some v => (numsB r).map (v :: ·)
theorem numsB_bd : ∀ {l : List ByteArray} {p : List Int}, numsB l = some p → p.length = l.length ∧ ∀ v ∈ p, 0 ≤ v ∧ v ≤ 999999
  | [], p, h => by simp only [numsB, Option.some.injEq] at h; subst h; simp
  | s :: r, p, h => by
    rw [numsB] at h
    split at h
    · cases h
    · rename_i v hv
      obtain ⟨q, hq, rfl⟩ := Option.map_eq_some_iff.1 h
      obtain ⟨h1, h2⟩ := numsB_bd hq
      refine ⟨by simp [h1], fun x hx => ?_⟩
      rcases List.mem_cons.1 hx with rfl | hx
      · exact numB_bd hv
      · exact h2 x hx
/-! what is answered -/
def listL (l : List Int) : List UInt8 := l.flatMap (fun x => Lib.itoa x ++ [32])
def listB (l : List Int) : ByteArray := bs (listL l ++ [46])
abbrev Ou := Except Int ByteArray
/-- the error of a list of numbers each from 1 on, none greater than the one ahead, no more than M in all -/
def ckE (M pv s : Int) : List Int → Int
  | [] => 0
  | x :: r => if x < 1 ∨ M < x then 1 else if pv < x then 3 else if M < s + x then 2 else ckE M x (s + x) r
def wRank : ByteArray := bs [114, 97, 110, 107]
def wOrder : ByteArray := bs [111, 114, 100, 101, 114]
def wTurned : ByteArray := bs [116, 117, 114, 110, 101, 100]
def wShapes : ByteArray := bs [115, 104, 97, 112, 101, 115]
def wNest : ByteArray := bs [110, 101, 115, 116]
def wSum : ByteArray := bs [115, 117, 109]
def wNames : ByteArray := bs [110, 97, 109, 101, 115]
noncomputable def rankO : Option (List Int) → Ou
  | none => .error 10
  | some p => if chkP p = 0 then .ok (listB [ofC (codeL p)]) else .error (chkP p)
noncomputable def rankA (l : List ByteArray) : Ou := rankO (numsB l)
def orderO : Option (List Int) → Ou
  | some [n, k] => if n ≤ 10 ∧ k < facN n.toNat then .ok (listB (atS n.toNat (upTo n.toNat) k.toNat)) else .error 1
  | _ => .error 10
def orderA (l : List ByteArray) : Ou := orderO (numsB l)
def turnO : Option (List Int) → Ou
  | none => .error 10
  | some p => if ckE 40 40 0 p = 0 then .ok (listB (trn p)) else .error (ckE 40 40 0 p)
def turnA (l : List ByteArray) : Ou := turnO (numsB l)
def shapO : Option (List Int) → Ou
  | none => .error 10
  | some p => if ckE 12 12 0 p = 0 then .ok (listB [cntL p]) else .error (ckE 12 12 0 p)
def shapA (l : List ByteArray) : Ou := shapO (numsB l)
def nestO : Option (List Int) → Ou
  | some [n, k] => if n ≤ 15 ∧ k < catN n.toNat then .ok (bs (58 :: atN (2 * n.toNat) 0 k.toNat)) else .error 1
  | _ => .error 10
def nestA (l : List ByteArray) : Ou := nestO (numsB l)
def addA (p q : Int) : Ou := if redQ p q ≤ 1000000000 ∧ -1000000000 ≤ redP p q ∧ redP p q ≤ 1000000000 then .ok (listB [redP p q, redQ p q]) else .error 2
def sumO : Option (List Int) → Ou
  | some [a, b, c, d] => if b = 0 then .error 5 else if d = 0 then .error 5 else addA (mkP a b * mkQ c d + mkP c d * mkQ a b) (mkQ a b * mkQ c d)
  | _ => .error 10
def sumA (l : List ByteArray) : Ou := sumO (numsB l)
noncomputable def askR (w : ByteArray) (l : List ByteArray) : Ou :=
  if w = wRank then rankA l else if w = wOrder ∧ l.length = 2 then orderA l else if w = wTurned then turnA l else if w = wShapes then shapA l
  else if w = wNest ∧ l.length = 2 then nestA l else if w = wSum ∧ l.length = 4 then sumA l else .error 10
def kJoin : ByteArray := bs [106, 111, 105, 110]
def kLeave : ByteArray := bs [108, 101, 97, 118, 101]
def kLend : ByteArray := bs [108, 101, 110, 100]
def kBack : ByteArray := bs [98, 97, 99, 107]
def kDraw : ByteArray := bs [100, 114, 97, 119]
def kTell : ByteArray := bs [116, 101, 108, 108]
def kFair : ByteArray := bs [102, 97, 105, 114]
def kindB (w : ByteArray) : Int := if w = kFair then 7 else if w = kTell then 6 else if w = kDraw then 5 else if w = kBack then 4 else if w = kLend then 3 else if w = kLeave then 2 else if w = kJoin then 1 else 0
def wantB (w : ByteArray) : Int := if w = kFair then 1 else if w = kTell then 2 else if w = kDraw then 2 else if w = kBack then 2 else if w = kLend then 4 else if w = kLeave then 2 else if w = kJoin then 3 else 0
def emB : ByteArray := ⟨#[]⟩
def okB : ByteArray := bs [111, 107]
def tellB (k : Int) (r : DR) : Ou := if r.er ≠ 0 then .error r.er else if k = 1 ∨ k = 2 ∨ k = 3 then .ok okB else .ok (bs (r.nm.data.toList ++ 32 :: Lib.itoa r.n))
def wd (l : List ByteArray) (i : Nat) : ByteArray := l.getD i emB
/-- number, name, other name of a deed; none: a number that is none -/
def deedX (k : Int) (l : List ByteArray) : Option (Int × ByteArray × ByteArray) :=
  if k = 1 then (numB (wd l 2)).map fun n => (n, wd l 1, emB)
  else if k = 3 then (numB (wd l 3)).map fun n => (n, wd l 1, wd l 2)
  else if k = 5 then (numB (wd l 1)).map fun n => (n, emB, emB)
  else if k = 7 then some (0, emB, emB)
  else some (0, wd l 1, emB)
def deedR (s : HSt) (k : Int) (l : List ByteArray) : HSt × Ou := match deedX k l with
  | none => (s, .error 10)
  | some x => ((doS s k x.1 x.2.1 x.2.2).s, tellB k (doS s k x.1 x.2.1 x.2.2))
noncomputable def ansO (s : HSt) : List ByteArray → HSt × Ou
  | [] => (s, .error 10)
  | w :: l => if l = [] ∧ w = wNames then (s, .ok (bs (58 :: Lib.join ((nmsM s.M).map (·.data.toList)) [32])))
    else if kindB w = 0 then (s, askR w l)
    else if ((l.length + 1 : Nat) : Int) ≠ wantB w then (s, .error 10)
    else deedR s (kindB w) (w :: l)
def ouB : Ou → ByteArray
  | .ok b => b
  | .error e => bs ([101, 114, 114, 111, 114, 32] ++ Lib.itoa e)
def wordsB (line : ByteArray) : List ByteArray := (linesB 32 line).filter fun s => s.data.toList ≠ []
noncomputable def ansR (s : HSt) (line : ByteArray) : HSt × ByteArray := ((ansO s (wordsB line)).1, ouB (ansO s (wordsB line)).2)
noncomputable def runL : HSt → List ByteArray → List ByteArray
  | _, [] => []
  | s, x :: r => if x.data.toList = [] then runL s r else (ansR s x).2 :: runL (ansR s x).1 r
noncomputable def runH : HSt → List ByteArray → HSt
  | s, [] => s
  | s, x :: r => if x.data.toList = [] then runH s r else runH (ansR s x).1 r
theorem runL_app : ∀ (a b : List ByteArray) (s : HSt), runL s (a ++ b) = runL s a ++ runL (runH s a) b
  | [], b, s => rfl
  | x :: a, b, s => by
    rw [List.cons_append, runL, runL, runH]
    by_cases h : x.data.toList = []
    · rw [if_pos h, if_pos h, if_pos h, runL_app a b s]
    · rw [if_neg h, if_neg h, if_neg h, runL_app a b]; rfl
theorem runS_app : ∀ (a b : List ByteArray) (s : HSt), runH s (a ++ b) = runH (runH s a) b
  | [], b, s => rfl
  | x :: a, b, s => by
    rw [List.cons_append, runH, runH]
    by_cases h : x.data.toList = []
    · rw [if_pos h, if_pos h, runS_app a b s]
    · rw [if_neg h, if_neg h, runS_app a b]
theorem runL_len : ∀ (a : List ByteArray) (s : HSt), (runL s a).length = (a.filter fun s => s.data.toList ≠ []).length
  | [], s => rfl
  | x :: a, s => by
    rw [runL]
    by_cases h : x.data.toList = []
    · rw [if_pos h, runL_len a s, List.filter_cons_of_neg (by simp [h])]
    · rw [if_neg h, List.length_cons, runL_len a, List.filter_cons_of_pos (by simp [h]), List.length_cons]
end Go.Proofs.YtbolgfiafbhicaaDoor
