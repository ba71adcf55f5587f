/- Several of my texts in one: Sl, Own2, Gray. -/
import Derived.Test.YtooghdnlaonkaaaRw04
import Derived.Maps.AppendAt
import Derived.Test.YtooghdnlaonkaaaRw01
import Derived.Laws.BitsAllLaws
import Derived.Deep.QuietTactic
import Derived.BigQuiet
/- Slices of ints that are only read, whatever they lie in. -/
namespace Go.Proofs.Ytooghdnlaonkaaa
open Go.RowKit

/-- v is a slice that reads as the numbers l -/
def Sl (w : World) (v : Value) (l : List Int) : Prop :=
  (l = [] ∧ ∃ a cap, v = .slice a 0 cap) ∨
  (0 < l.length ∧ ∃ b off cap, v = .slice (some ⟨b, off, none⟩) l.length cap ∧ b < w.heap.size ∧ ∀ i, i < l.length → w.cell? ⟨b, off + i, none⟩ = some (.int .i64 (l.getD i 0)))
theorem Sl.keep {w w' : World} {v : Value} {l : List Int} (h : Sl w v l) (k : Below w.heap.size w w') : Sl w' v l := by
  rcases h with h | ⟨h0, b, off, cap, e, hb, hc⟩
  · exact .inl h
  · refine .inr ⟨h0, b, off, cap, e, Nat.lt_of_lt_of_le hb k.size, fun i hi => ?_⟩
    rw [← hc i hi]
    exact k.cell (p := ⟨b, off + i, none⟩) hb
theorem Sl.alloc {w : World} {v : Value} {l : List Int} (h : Sl w v l) (o : Obj) : Sl (w.alloc o) v l := h.keep (kin_alloc (Below.refl _ _) o)
theorem Own.sl {w : World} {base : Nat} {v : Value} {l : List Int} (h : Own w base v l) : Sl w v l := by
  rcases h.shape with ⟨h1, h2⟩ | ⟨g, cap, e, _, hg, hc, _⟩
  · exact .inl ⟨h2, none, 0, h1⟩
  · cases l with
    | nil => exact .inl ⟨rfl, some ⟨g, 0, none⟩, cap, e⟩
    | cons a l => exact .inr ⟨by simp, g, 0, cap, e, hg, fun i hi => by rw [Nat.zero_add]; exact hc i hi⟩
/-- what the frame of a law tells of a slice of integers that came in -/
def IsRow (k : IntKind) (w : World) (a : Option Addr) (len cap : Nat) (zs : List Int) : Prop :=
  (a = none ∧ len = 0 ∧ cap = 0 ∧ zs = []) ∨
  ∃ x, a = some x ∧ len ≤ cap ∧ cap ≤ maxLen ∧ zs.length = cap ∧ (∀ i, i < zs.length → w.cell? (x.add i) = some (.int k (zs.getD i 0))) ∧ ∀ n ∈ zs, (Lit.int k n).wf = true
theorem IsRow.sl {w : World} {a : Option Addr} {len cap : Nat} {zs : List Int} (h : IsRow .i64 w a len cap zs) : Sl w (.slice a len cap) (zs.take len) ∧ (zs.take len).length = len ∧ len ≤ maxLen := by
  rcases h with ⟨rfl, rfl, rfl, rfl⟩ | ⟨x, rfl, h1, h2, h3, h4, h5⟩
  · exact ⟨.inl ⟨rfl, none, 0, rfl⟩, rfl, by omega⟩
  · have hl : (zs.take len).length = len := by rw [List.length_take]; omega
    refine ⟨?_, hl, by omega⟩
    by_cases h0 : len = 0
    · subst h0; exact .inl ⟨by simp, some x, cap, rfl⟩
    · have hz := h4 0 (by omega)
      obtain ⟨b, off, spot⟩ := x
      have hs : spot = none := by
        cases spot with
        | none => rfl
        | some s =>
          unfold World.cell? at hz
          simp only [Addr.add] at hz
          split at hz
          · simp at hz
          · cases hz
      subst hs
      refine .inr ⟨by omega, b, off, cap, by rw [hl], ?_, fun i hi => ?_⟩
      · unfold World.cell? at hz
        simp only [Addr.add] at hz
        split at hz
        · next hq => exact (Array.getElem?_eq_some_iff.1 hq).1
        · cases hz
      · have := h4 i (by omega)
        rw [show ((⟨b, off, none⟩ : Addr).add i) = ⟨b, off + i, none⟩ from by simp [Addr.add]] at this
        rw [this]
        congr 2
        rw [List.getD_eq_getElem?_getD, List.getD_eq_getElem?_getD, List.getElem?_take_of_lt (by omega)]
end Go.Proofs.Ytooghdnlaonkaaa
/- The append law that says what is kept of another own slice. -/
namespace Go.Proofs.Ytooghdnlaonkaaa
open Go.RowKit

/-- two own slices that do not share a block -/
def Apart (v u : Value) : Prop := v.ownBlock = none ∨ v.ownBlock ≠ u.ownBlock
theorem Own.kept {w w' : World} {base : Nat} {v : Value} {l : List Int} {row : Option Nat} (h : Own w base v l) (hg : w.grownBy w' row) (hne : v.ownBlock = none ∨ v.ownBlock ≠ row) : Own w' base v l := World.ownsRow.kept h hg hne
theorem Own.blockLt {w : World} {base : Nat} {v : Value} {l : List Int} (h : Own w base v l) : ∀ k, v.ownBlock = some k → k < w.heap.size := by
  intro k hk
  obtain ⟨_, h2⟩ := h
  rcases h2 with ⟨rfl, _⟩ | ⟨g, cap, cur, rfl, _, e3, _⟩
  · cases hk
  · simp [Value.ownBlock] at hk; subst hk
    exact (Array.getElem?_eq_some_iff.1 e3).1

/-- append one number; what else is kept: every other own slice that is apart from it, and it stays apart -/
theorem wpList_append1_at {ops : Array Oper} {rest : List Oper} {o : Oper} {a : Act} {Q : Exit → Act → World → Prop} {w0 : World} (hgd : o.guard = none) (s x : Operand)
    (ho : o.op = .call { callee := .builtin .append, args := #[s, x], argTypes := #[32, 32] })
    (base : Nat) (v : Value) (l : List Int) (y : Int) (hs : a.eval s = v) (hown : Own w0 base v l)
    (hx : a.eval x = .slice (some ⟨w0.heap.size, 0, none⟩) 1 1) (hlen : l.length ≤ 1000000) (hbase : base ≤ w0.heap.size)
    (h : ∀ v' w', Own w' base v' (l ++ [y]) → Below base w0 w' → w0.heap.size < w'.heap.size →
      (∀ base1 u m, Own w0 base1 u m → Apart u v → Own w' base1 u m ∧ Apart u v' ∧ Apart v' u) → wpList Try.prog ops Q rest (a.put o.dst v') w') :
    wpList Try.prog ops Q (o :: rest) a (w0.alloc (.cells #[.int .i64 y] 3)) := by
  obtain ⟨i0, hi, hz0, hz1, hz2⟩ := info_parts intInfo
  refine wpList_append_own_at _ hgd s x 32 ho base 3 i0 (.int .i64 0) 1 8 Try.underlying32 hi hz0 hz1 hz2 rfl (by decide) v l.length (l.map (Value.int .i64)) hs (World.ownsRow.alloc hown _)
    ⟨w0.heap.size, 0, none⟩ 1 1 [.int .i64 y] hx rfl (cell_one_new _ _ _) ?_ ?_ ?_ ?_ ?_
  · intro u hu; simp at hu; subst hu; rfl
  · unfold maxLen; omega
  · omega
  · simp; omega
  · intro v' w' h1 h2 _ hat
    have hsz := h2.size
    have hsz0 : (w0.alloc (.cells #[.int .i64 y] 3)).heap.size = w0.heap.size + 1 := by simp
    refine h v' w' ?_ ?_ ?_ ?_
    · unfold Own
      rw [List.length_append, List.map_append]; exact h1
    · refine Below.grown (row := v.ownBlock) ((Below.refl base w0).alloc hbase _) h2 (by simp; omega) ?_
      intro k hk
      exact (World.ownsRow.lt hown k hk).1
    · omega
    · intro base1 u m hu hap
      refine ⟨(hu.alloc _).kept h2 hap, ?_, ?_⟩
      · rcases hap with hap | hap
        · exact .inl hap
        · rcases hat with hat | hat
          · exact .inr (by rw [hat]; exact hap)
          · refine .inr fun he => ?_
            have := hu.blockLt _ (he.trans hat)
            omega
      · by_cases hv : v'.ownBlock = none
        · exact .inl hv
        · refine .inr fun he => ?_
          rcases hat with hat | hat
          · rcases hap with hap | hap
            · exact hv (by rw [he, hap])
            · exact hap (by rw [← he, hat])
          · have := hu.blockLt _ (he.symm.trans hat)
            omega
end Go.Proofs.Ytooghdnlaonkaaa
/- Contracts of package gray: Of, Back, Bit; and the plain laws of the code. -/
namespace Go.Proofs.Ytooghdnlaonkaaa
open Go.RowKit

theorem u16xor (a b : Nat) (ha : a < 65536) (hb : b < 65536) : bits .xor .u16 (a : Int) (b : Int) = ((a ^^^ b : Nat) : Int) := Go.u16_xor_nat a b ha hb

set_option maxHeartbeats 400000 in
theorem grayOf_any (a : Nat) (w : World) (ha : a < 65536) :
    Calls Try.prog 73 #[.int .u16 a] w fun e w' => e = .returned (.int .u16 ((a ^^^ a / 2 : Nat) : Int)) ∧ w = w' := by
  have HX := Lib.hid (u16xor a (a / 2) ha (by omega))
  go_enter Try.func73, Try.ntmps73
  go_wp2
  go_ret
  refine ⟨ret_int ?_, rfl⟩
  rw [← HX.out]; simp

def backTo (a : Nat) : Nat → Nat
  | 0 => a
  | j + 1 => backTo a j ^^^ (backTo a j / 2 ^ 2 ^ j)
theorem backTo_lt (a j : Nat) (ha : a < 65536) : backTo a j < 65536 := by
  induction j with
  | zero => exact ha
  | succ j ih =>
    have : backTo a j / 2 ^ 2 ^ j < 65536 := Nat.lt_of_le_of_lt (Nat.div_le_self _ _) ih
    exact Nat.xor_lt_two_pow (n := 16) ih this

set_option maxHeartbeats 400000 in
theorem grayBack_any (a : Nat) (w : World) (ha : a < 65536) :
    Calls Try.prog 74 #[.int .u16 a] w fun e w' => e = .returned (.int .u16 ((backTo a 4 : Nat) : Int)) ∧ w = w' := by
  go_enter Try.func74, Try.ntmps74
  go_wp2
  go_loop [0, 3] (fun g k => ∃ j : Nat, j ≤ 4 ∧ g = .int .u16 ((backTo a j : Nat) : Int) ∧ k = .int .i64 ((2 ^ j : Nat) : Int)) (fun _ k => 16 - (intOf k).toNat)
  case atStart => exact ⟨0, by omega, rfl, rfl⟩
  case round =>
    obtain ⟨j, hj, rfl, rfl⟩ := hrel
    have hb := backTo_lt a j ha
    have HX := Lib.hid (u16xor (backTo a j) (backTo a j / 2 ^ 2 ^ j) hb (Nat.lt_of_le_of_lt (Nat.div_le_self _ _) hb))
    generalize hg : backTo a j = g at *
    have HG := Lib.hid hg; clear hg
    obtain (rfl | rfl | rfl | rfl | rfl) : j = 0 ∨ j = 1 ∨ j = 2 ∨ j = 3 ∨ j = 4 := by omega
    · go_wp2
      exact ⟨⟨1, by omega, by rw [backTo, HG.out]; have := HX.out; simp at this ⊢; exact this, rfl⟩, by simp [intOf]⟩
    · go_wp2
      exact ⟨⟨2, by omega, by rw [backTo, HG.out]; have := HX.out; simp at this ⊢; exact this, rfl⟩, by simp [intOf]⟩
    · go_wp2
      exact ⟨⟨3, by omega, by rw [backTo, HG.out]; have := HX.out; simp at this ⊢; exact this, rfl⟩, by simp [intOf]⟩
    · go_wp2
      exact ⟨⟨4, by omega, by rw [backTo, HG.out]; have := HX.out; simp at this ⊢; exact this, rfl⟩, by simp [intOf]⟩
    · go_wp2
      go_ret
      exact ⟨ret_int (by rw [HG.out]), rfl⟩

/-! plain laws -/
theorem div_xor (a b n : Nat) : (a ^^^ b) / 2 ^ n = a / 2 ^ n ^^^ b / 2 ^ n := by
  simp only [← Nat.shiftRight_eq_div_pow, Nat.shiftRight_xor_distrib]
theorem xor4 (a b c d : Nat) : (a ^^^ b) ^^^ (c ^^^ d) = (a ^^^ c) ^^^ (b ^^^ d) := by
  rw [Nat.xor_assoc, ← Nat.xor_assoc b, Nat.xor_comm b c, Nat.xor_assoc c, ← Nat.xor_assoc]
theorem back_xor (a b j : Nat) : backTo (a ^^^ b) j = backTo a j ^^^ backTo b j := by
  induction j with
  | zero => rfl
  | succ j ih => simp only [backTo, ih, div_xor, xor4]
theorem double (a n : Nat) : (a ^^^ a / 2 ^ n) ^^^ (a ^^^ a / 2 ^ n) / 2 ^ n = a ^^^ a / 2 ^ (n + n) := by
  rw [div_xor, Nat.div_div_eq_div_mul, ← Nat.pow_add, xor4]
  rw [Nat.xor_comm a, xor4, Nat.xor_self, Nat.zero_xor]
theorem back_of_to (a : Nat) : ∀ j, backTo (a ^^^ a / 2) j = a ^^^ a / 2 ^ 2 ^ j
  | 0 => rfl
  | j + 1 => by rw [backTo, back_of_to a j, double, Nat.pow_succ 2 j, Nat.mul_two]
theorem back_of (a : Nat) (h : a < 65536) : backTo (a ^^^ a / 2) 4 = a := by
  rw [back_of_to, Nat.div_eq_of_lt (by simpa using h), Nat.xor_zero]
theorem of_back_to (a : Nat) : ∀ j, backTo a j ^^^ backTo a j / 2 = backTo (a ^^^ a / 2) j := by
  intro j
  induction j with
  | zero => rfl
  | succ j ih =>
    rw [backTo, backTo, ← ih]
    have := div_xor (backTo a j) (backTo a j / 2 ^ 2 ^ j) 1
    simp only [Nat.pow_one] at this
    rw [this, div_xor _ _ (2 ^ j), xor4, Nat.div_div_eq_div_mul, Nat.div_div_eq_div_mul, Nat.mul_comm]
theorem of_back (a : Nat) (h : a < 65536) : backTo a 4 ^^^ backTo a 4 / 2 = a := by rw [of_back_to, back_of a h]
theorem of_xor (a b : Nat) : (a ^^^ b) ^^^ (a ^^^ b) / 2 = (a ^^^ a / 2) ^^^ (b ^^^ b / 2) := by
  have := div_xor a b 1
  simp only [Nat.pow_one] at this
  rw [this, xor4]
theorem of_lt (a : Nat) (h : a < 65536) : a ^^^ a / 2 < 65536 := Nat.xor_lt_two_pow (n := 16) h (by omega)

set_option maxHeartbeats 400000 in
theorem grays_any (w : World) : Calls Try.prog 23 #[] w fun e w' => e = .returned (.bool true) ∧ w = w' := by
  go_enter Try.func23, Try.ntmps23
  go_wp2_with fail
  refine (grayOf_any 5 _ (by omega)).mono ?_; rintro e w' ⟨rfl, rfl⟩
  go_wp2_with fail
  refine (grayBack_any 7 _ (by omega)).mono ?_; rintro e w' ⟨rfl, rfl⟩
  go_wp2_with fail
  go_ret
  exact ⟨rfl, rfl⟩

/-- GraySums: the walk -/
def FirstZero (a k : Nat) : Prop := k ≤ 15 ∧ a % 2 ^ k = 2 ^ k - 1 ∧ a / 2 ^ k % 2 = 0
def OnesTo (a k : Nat) : Prop := k ≤ 15 ∧ a % 2 ^ k = 2 ^ k - 1
theorem ones_next (a k : Nat) (ha : a < 65536) (hne : a ≠ 65535) (h : OnesTo a k) (h1 : a / 2 ^ k % 2 = 1) : OnesTo a (k + 1) := by
  obtain ⟨h2, h3⟩ := h
  have hm : a % 2 ^ (k + 1) = 2 ^ (k + 1) - 1 := by
    have hp := Nat.two_pow_pos k
    rw [Nat.pow_succ, Nat.mod_mul, h3, h1]; omega
  refine ⟨?_, hm⟩
  by_cases hk : k = 15
  · subst hk; omega
  · omega
theorem firstZero_flip (a k : Nat) (h : FirstZero a k) : (a ^^^ a / 2) ^^^ ((a + 1) ^^^ (a + 1) / 2) = 2 ^ k := by
  obtain ⟨h1, h2, h3⟩ := h
  rw [← of_xor]
  have hp := Nat.two_pow_pos k
  have hd : a / 2 ^ (k + 1) = (a + 1) / 2 ^ (k + 1) ∧ a % 2 ^ (k + 1) = 2 ^ k - 1 ∧ (a + 1) % 2 ^ (k + 1) = 2 ^ k := by
    have e1 : a % 2 ^ (k + 1) = 2 ^ k - 1 := by rw [Nat.pow_succ, Nat.mod_mul, h2, h3]; omega
    have e2 := Nat.div_add_mod a (2 ^ (k + 1))
    rw [e1] at e2
    have e3 : a + 1 = 2 ^ (k + 1) * (a / 2 ^ (k + 1)) + 2 ^ k := by omega
    have hlt : 2 ^ k < 2 ^ (k + 1) := by rw [Nat.pow_succ]; omega
    refine ⟨?_, e1, ?_⟩
    · have : (2 ^ (k + 1) * (a / 2 ^ (k + 1)) + 2 ^ k) / 2 ^ (k + 1) = a / 2 ^ (k + 1) := by rw [Nat.mul_add_div (by omega), Nat.div_eq_of_lt hlt]; simp
      rw [← e3] at this; exact this.symm
    · rw [e3, Nat.mul_add_mod, Nat.mod_eq_of_lt hlt]
  have ht : a ^^^ (a + 1) = 2 ^ (k + 1) - 1 := by
    have e1 : (a ^^^ (a + 1)) / 2 ^ (k + 1) = 0 := by rw [div_xor, hd.1, Nat.xor_self]
    have e2 : (a ^^^ (a + 1)) % 2 ^ (k + 1) = (2 ^ k - 1) ^^^ 2 ^ k := by rw [Nat.xor_mod_two_pow, hd.2.1, hd.2.2]
    have e3 := Nat.div_add_mod (a ^^^ (a + 1)) (2 ^ (k + 1))
    rw [e1, e2] at e3
    rw [← e3]
    clear e1 e2 e3 hd h2 h3 hp
    have : ∀ k, k < 16 → 2 ^ (k + 1) * 0 + ((2 ^ k - 1) ^^^ 2 ^ k) = 2 ^ (k + 1) - 1 := by decide
    exact this k (by omega)
  rw [ht]
  have : ∀ k, k < 16 → (2 ^ (k + 1) - 1) ^^^ (2 ^ (k + 1) - 1) / 2 = 2 ^ k := by decide
  exact this k (by omega)

theorem u16and1 (a : Nat) (ha : a < 65536) : bits .and .u16 (a : Int) 1 = ((a % 2 : Nat) : Int) := by
  have := Go.u16_and_nat a 1 ha (by omega)
  rw [Nat.and_one_is_mod] at this
  exact this

def BitSaid (a : Nat) (w : World) (e : Ending) (w' : World) : Prop := ∃ k : Nat, FirstZero a k ∧ e = .returned (.tuple #[.int .i64 k, .int .i64 0]) ∧ w = w'

end Go.Proofs.Ytooghdnlaonkaaa
