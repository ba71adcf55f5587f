/- Several of my texts in one: Arr4, EvtM. -/
import Derived.Test.YtooghdnlaonkaaaRw08
import Derived.Test.YtooghdnlaonkaaaRw04
/- append where the block's number is spelled by the walk. -/
namespace Go.Proofs.Ytooghdnlaonkaaa
open Go.RowKit

theorem wpList_pushInt' {ops : Array Oper} {rest : List Oper} {o : Oper} {a : Act} {Q : Exit → Act → World → Prop} {w0 w : World} (hgd : o.guard = none) (s x : Operand)
    (ho : o.op = .call { callee := .builtin .append, args := #[s, x], argTypes := #[32, 32] })
    (ad : Option Addr) (n cap : Nat) (l : List Int) (y : Int) (L : List Ent) (N : Nat) (hN : w.heap.size = N) (hs : a.eval s = .slice ad n cap) (hF : Fr w0 w (⟨3, .slice ad n cap, ints l⟩ :: L))
    (hx : a.eval x = .slice (some ⟨N, 0, none⟩) 1 1) (hlen : n ≤ 1000000)
    (h : ∀ ad' cap' w', Fr w0 w' (⟨3, .slice ad' (n + 1) cap', ints (l ++ [y])⟩ :: L) → N < w'.heap.size → wpList Try.prog ops Q rest (a.put o.dst (.slice ad' (n + 1) cap')) w') :
    wpList Try.prog ops Q (o :: rest) a (w.alloc (.cells #[.int .i64 y] 3)) := by
  subst hN
  exact wpList_pushInt hgd s x ho ad n cap l y L hs hF hx hlen h
/-- append of one cell of any type -/
theorem wpList_push' {ops : Array Oper} {rest : List Oper} {o : Oper} {a : Act} {Q : Exit → Act → World → Prop} {w0 w : World} (hgd : o.guard = none) (s x : Operand) (S T : TypeId) (z : Value) (bytes : Nat)
    (hS : Try.prog.underlying S = some (.slice T)) (hT : (Try.prog.info? T).map (fun i => (i.zero, i.size, i.bytes)) = some (some z, 1, bytes)) (hz : z.cells.size = 1) (hby : bytes ≤ 1000)
    (ho : o.op = .call { callee := .builtin .append, args := #[s, x], argTypes := #[S, S] })
    (ad : Option Addr) (n cap : Nat) (xs : List Value) (y : Value) (L : List Ent) (N : Nat) (hN : w.heap.size = N) (hs : a.eval s = .slice ad n cap) (hF : Fr w0 w (⟨T, .slice ad n cap, xs⟩ :: L))
    (hx : a.eval x = .slice (some ⟨N, 0, none⟩) 1 1) (hy : y.oneCell' = true) (hlen : n ≤ 1000000)
    (h : ∀ ad' cap' w', Fr w0 w' (⟨T, .slice ad' (n + 1) cap', xs ++ [y]⟩ :: L) → N < w'.heap.size → wpList Try.prog ops Q rest (a.put o.dst (.slice ad' (n + 1) cap')) w') :
    wpList Try.prog ops Q (o :: rest) a (w.alloc (.cells #[y] T)) := by
  subst hN
  exact wpList_push hgd s x S T z bytes hS hT hz hby ho ad n cap xs y L hs hF hx hy hlen h
theorem intElem : Try.prog.elem 32 = 3 := by kernel_rfl
/-- x[k:], of any element of one cell -/
theorem slice_fromT (S T : TypeId) (hS : Try.prog.underlying S = some (.slice T)) (hE : Try.prog.elem S = T) (hT : (Try.prog.info? T).map (fun i => i.size) = some 1)
    (ad : Option Addr) (n cap k : Nat) (hk : k ≤ n) (hc : n ≤ cap) (xs : List Value) (hx : xs.length = n) :
    ∃ ad' cap', (∀ W, Sem.run Try.prog (Instr.slice S (.slice ad n cap) (some (.int .i64 (k : Int))) none none) W = .ok (.slice ad' (n - k) cap') W) ∧ (∀ W, Sa W ad xs → Sa W ad' (xs.drop k)) ∧ n - k ≤ cap' := by
  have ht : Try.prog.underlying S = some (.slice (Try.prog.elem S)) := by rw [hE]; exact hS
  have hsz : ∀ W, Sem.run Try.prog (sizeOf (Try.prog.elem S)) W = .ok 1 W := fun W => by
    rw [hE]
    cases hi : Try.prog.info? T with
    | none => rw [hi] at hT; cases hT
    | some i => rw [hi] at hT; simp at hT; simp [sizeOf, typeInfo, go_sem, hi, hT]
  refine ⟨if cap = k then ad else ad.map (·.add (k * 1)), cap - k, fun W => ?_, fun W hW h0 => ?_, by omega⟩
  · rw [run_slice_l W S ad n cap ht .i64 k (by omega) (by omega), hsz]
    simp [Result.andThen, sliced]
  · rw [List.length_drop] at h0
    rw [if_neg (by omega)]
    obtain ⟨b, off, rfl, _, _⟩ := hW (by omega)
    have := hW.drop k
    have e : (some ⟨b, off, none⟩ : Option Addr).map (·.add (k * 1)) = some ⟨b, off + k, none⟩ := by
      simp only [Option.map_some, Nat.mul_one]; unfold Addr.add; split
      · next h => simp_all
      · rfl
    rw [e]; exact this (by rw [List.length_drop]; exact h0)
/-- x[lo:hi] -/
theorem slice_midT (S T : TypeId) (hS : Try.prog.underlying S = some (.slice T)) (hE : Try.prog.elem S = T) (hT : (Try.prog.info? T).map (fun i => i.size) = some 1)
    (ad : Option Addr) (n cap lo k : Nat) (hk : lo + k ≤ n) (hc : n ≤ cap) (xs : List Value) (hx : xs.length = n) :
    ∃ ad' cap', (∀ W, Sem.run Try.prog (Instr.slice S (.slice ad n cap) (some (.int .i64 (lo : Int))) (some (.int .i64 ((lo : Int) + (k : Int)))) none) W = .ok (.slice ad' k cap') W) ∧ (∀ W, Sa W ad xs → Sa W ad' ((xs.drop lo).take k)) ∧ k ≤ cap' := by
  have ht : Try.prog.underlying S = some (.slice (Try.prog.elem S)) := by rw [hE]; exact hS
  have hsz : ∀ W, Sem.run Try.prog (sizeOf (Try.prog.elem S)) W = .ok 1 W := fun W => by
    rw [hE]
    cases hi : Try.prog.info? T with
    | none => rw [hi] at hT; cases hT
    | some i => rw [hi] at hT; simp at hT; simp [sizeOf, typeInfo, go_sem, hi, hT]
  refine ⟨if cap = lo then ad else ad.map (·.add (lo * 1)), cap - lo, fun W => ?_, fun W hW h0 => ?_, by omega⟩
  · rw [run_slice_lh W S ad n cap ht .i64 .i64 lo ((lo : Int) + (k : Int)) (by omega) (by omega) (by omega), hsz]
    have e1 : ((lo : Int) + (k : Int)).toNat = lo + k := by omega
    simp only [Result.andThen, sliced, e1, Int.toNat_natCast]
    rw [Nat.add_sub_cancel_left]
  · rw [List.length_take, List.length_drop] at h0
    rw [if_neg (by omega)]
    obtain ⟨b, off, rfl, _, _⟩ := hW (by omega)
    have := (hW.drop lo).take k
    have e : (some ⟨b, off, none⟩ : Option Addr).map (·.add (lo * 1)) = some ⟨b, off + lo, none⟩ := by
      simp only [Option.map_some, Nat.mul_one]; unfold Addr.add; split
      · next h => simp_all
      · rfl
    rw [e]; exact this (by rw [List.length_take, List.length_drop]; exact h0)
end Go.Proofs.Ytooghdnlaonkaaa
/- Plain laws of weights of sets. -/
namespace Go.Proofs.Ytooghdnlaonkaaa
open Go.RowKit

def isum : List Int → Int
  | [] => 0
  | x :: r => x + isum r
def wtL : List Int → Nat → Int
  | [], _ => 0
  | x :: r, s => (if s % 2 = 1 then x else 0) + wtL r (s / 2)
theorem wtL_snoc : ∀ (l : List Int) (x : Int) (s : Nat), wtL (l ++ [x]) s = wtL l s + if s / 2 ^ l.length % 2 = 1 then x else 0
  | [], x, s => by simp [wtL]
  | y :: r, x, s => by
    rw [List.cons_append, wtL, wtL, wtL_snoc r x (s / 2), List.length_cons, Nat.div_div_eq_div_mul, Nat.pow_succ, Nat.mul_comm 2]
    omega
theorem and_mod2' (a b : Nat) : (a &&& b) % 2 = if a % 2 = 1 ∧ b % 2 = 1 then 1 else 0 := by
  have h : (a &&& b) % 2 = (a % 2) &&& (b % 2) := by
    have := Nat.and_mod_two_pow (a := a) (b := b) (n := 1)
    simpa using this
  rw [h]
  rcases Nat.mod_two_eq_zero_or_one a with h1 | h1 <;> rcases Nat.mod_two_eq_zero_or_one b with h2 | h2 <;> rw [h1, h2] <;> rfl
theorem and_div2 (a b : Nat) : (a &&& b) / 2 = (a / 2) &&& (b / 2) := by
  have := Nat.and_div_two_pow (a := a) (b := b) (n := 1)
  simpa using this
theorem wtL_split : ∀ (l : List Int) (f a b : Nat), l.length ≤ f → b < 2 ^ f → wtL l (a &&& (2 ^ f - 1 - b)) + wtL l (a &&& b) = wtL l a
  | [], _, _, _, _, _ => by simp [wtL]
  | x :: r, 0, a, b, h, _ => by simp at h
  | x :: r, f + 1, a, b, h, hb => by
    have ih := wtL_split r f (a / 2) (b / 2) (by simpa using h) (by rw [Nat.pow_succ] at hb; omega)
    rw [wtL, wtL, wtL, and_div2, and_div2, and_mod2', and_mod2']
    have e1 : (2 ^ (f + 1) - 1 - b) / 2 = 2 ^ f - 1 - b / 2 := by rw [Nat.pow_succ] at *; generalize 2 ^ f = P at *; omega
    have e2 : (2 ^ (f + 1) - 1 - b) % 2 = 1 - b % 2 := by rw [Nat.pow_succ] at *; generalize 2 ^ f = P at *; omega
    rw [e1, e2]
    rcases Nat.mod_two_eq_zero_or_one a with h1 | h1 <;> rcases Nat.mod_two_eq_zero_or_one b with h2 | h2 <;> simp [h1, h2] <;> omega
theorem wtL_all : ∀ (l : List Int), wtL l (2 ^ l.length - 1) = isum l
  | [] => rfl
  | x :: r => by
    rw [wtL, isum, List.length_cons]
    have e1 : (2 ^ (r.length + 1) - 1) % 2 = 1 := by rw [Nat.pow_succ]; have := Nat.one_le_two_pow (n := r.length); omega
    have e2 : (2 ^ (r.length + 1) - 1) / 2 = 2 ^ r.length - 1 := by rw [Nat.pow_succ]; have := Nat.one_le_two_pow (n := r.length); omega
    rw [if_pos e1, e2, wtL_all r]
theorem wtL_comm (l : List Int) (a b : Nat) : wtL l (a &&& b) = wtL l (b &&& a) := by rw [Nat.and_comm]
theorem wtL_zero : ∀ l : List Int, wtL l 0 = 0
  | [] => rfl
  | x :: r => by rw [wtL]; simp [wtL_zero r]
def Pos (l : List Int) : Prop := ∀ x ∈ l, 1 ≤ x ∧ x ≤ 100
theorem wtL_bd : ∀ (l : List Int) (s : Nat), Pos l → 0 ≤ wtL l s ∧ wtL l s ≤ 100 * l.length
  | [], _, _ => by simp [wtL]
  | x :: r, s, h => by
    have h1 := h x (by simp)
    have h2 := wtL_bd r (s / 2) (fun y hy => h y (by simp [hy]))
    rw [wtL, List.length_cons]; split <;> omega
theorem wtL_pos : ∀ (l : List Int) (s : Nat), Pos l → 0 < s → s < 2 ^ l.length → 0 < wtL l s
  | [], s, _, h, h2 => by simp at h2; omega
  | x :: r, s, h, h0, h2 => by
    have h1 := h x (by simp)
    have hr : Pos r := fun y hy => h y (by simp [hy])
    rw [wtL]
    rw [List.length_cons, Nat.pow_succ] at h2
    rcases Nat.mod_two_eq_zero_or_one s with h3 | h3
    · rw [if_neg (by omega)]
      have := wtL_pos r (s / 2) hr (by omega) (by omega)
      omega
    · rw [if_pos h3]
      have := (wtL_bd r (s / 2) hr).1
      omega
theorem isum_bdP (l : List Int) (h : Pos l) (h0 : 0 < l.length) : 0 < isum l ∧ isum l ≤ 100 * l.length := by
  rw [← wtL_all]
  refine ⟨wtL_pos l _ h ?_ ?_, (wtL_bd l _ h).2⟩
  · have := Nat.one_lt_two_pow (n := l.length) (by omega); omega
  · have := Nat.one_le_two_pow (n := l.length); omega
theorem and_all (n a : Nat) (h : a < 2 ^ n) : (2 ^ n - 1) &&& a = a := by
  rw [Nat.and_comm, Nat.and_two_pow_sub_one_eq_mod, Nat.mod_eq_of_lt h]
/-- a without b, as the machine says it -/
def less16 (a b : Nat) : Nat := a &&& (65535 - b)
theorem wtL_less (l : List Int) (a b : Nat) (h : l.length ≤ 12) (hb : b < 65536) : wtL l (less16 a b) + wtL l (a &&& b) = wtL l a := wtL_split l 16 a b (by omega) hb
theorem less16_lt (n a b : Nat) (h : a < 2 ^ n) : less16 a b < 2 ^ n := Nat.lt_of_le_of_lt Nat.and_le_left h
theorem and_lt' (n a b : Nat) (h : a < 2 ^ n) : a &&& b < 2 ^ n := Nat.lt_of_le_of_lt Nat.and_le_left h

/-! Check -/
def chkE (l : List Int) (ss : List Nat) : Int :=
  if l.length < 1 ∨ 12 < l.length then 2 else if l.any (fun x => decide (x < 1 ∨ 100 < x)) then 1 else if ss.any (fun s => decide (2 ^ l.length ≤ s)) then 3 else 0
theorem chkE_ok {l : List Int} {ss : List Nat} (h : chkE l ss = 0) : 1 ≤ l.length ∧ l.length ≤ 12 ∧ Pos l ∧ ∀ s ∈ ss, s < 2 ^ l.length := by
  unfold chkE at h
  split at h
  · cases h
  · split at h
    · cases h
    · split at h
      · cases h
      · next h1 h2 h3 =>
        refine ⟨by omega, by omega, fun x hx => ?_, fun s hs => ?_⟩
        · simp only [List.any_eq_true, not_exists, not_and] at h2
          have := h2 x hx
          simp at this; omega
        · simp only [List.any_eq_true, not_exists, not_and] at h3
          have := h3 s hs
          simpa using this
theorem chkE_yes {l : List Int} {ss : List Nat} (h1 : 1 ≤ l.length) (h2 : l.length ≤ 12) (h3 : Pos l) (h4 : ∀ s ∈ ss, s < 2 ^ l.length) : chkE l ss = 0 := by
  unfold chkE
  rw [if_neg (by omega), if_neg, if_neg]
  · simp only [List.any_eq_true, not_exists, not_and]; intro s hs; have := h4 s hs; simpa using this
  · simp only [List.any_eq_true, not_exists, not_and]; intro x hx; have := h3 x hx; simp; omega
theorem chkE_swap (l : List Int) (a b : Nat) : chkE l [a, b] = chkE l [b, a] := by
  unfold chkE
  have : [a, b].any (fun s => decide (2 ^ l.length ≤ s)) = [b, a].any (fun s => decide (2 ^ l.length ≤ s)) := by simp [Bool.or_comm]
  rw [this]
theorem chkE_bd (l : List Int) (ss : List Nat) : 0 ≤ chkE l ss ∧ chkE l ss ≤ 3 := by unfold chkE; split <;> (try split) <;> (try split) <;> omega
end Go.Proofs.Ytooghdnlaonkaaa
