/- Several of my texts in one: Own, Sl, Own2, Nest2. -/
import Derived.Test.YtbolgfiafbhicaaDoorDF02
import Derived.OwnWalk
import Derived.Maps.AppendAt
/- Slices of ints that the call itself made by append. -/
namespace Go.Proofs.YtbolgfiafbhicaaDoor
open Go.RowKit

/-- v is a slice of the call's own (nil or in a block from base on) that holds the numbers l -/
def Own (w : World) (base : Nat) (v : Value) (l : List Int) : Prop := w.ownsRow base 3 1 v l.length (l.map (Value.int .i64))
theorem Own.nil (w : World) (base : Nat) : Own w base (.slice none 0 0) [] := ⟨rfl, .inl ⟨rfl, rfl⟩⟩
theorem Own.alloc {w : World} {base : Nat} {v : Value} {l : List Int} (h : Own w base v l) (o : Obj) : Own (w.alloc o) base v l := World.ownsRow.alloc h o
theorem Own.drew {w : World} {base : Nat} {v : Value} {l : List Int} (h : Own w base v l) : Own w.drew base v l := h
theorem Own.keep {w w' : World} {base : Nat} {v : Value} {l : List Int} (h : Own w base v l) (b : Below w.heap.size w w') : Own w' base v l := by
  obtain ⟨h1, h2⟩ := h
  refine ⟨h1, ?_⟩
  rcases h2 with h2 | ⟨g, cap, cur, e1, e2, e3, e4⟩
  · exact .inl h2
  · refine .inr ⟨g, cap, cur, e1, e2, ?_, e4⟩
    have : g < w.heap.size := (Array.getElem?_eq_some_iff.1 e3).1
    rw [b.block g this, e3]
/-- the shape of such a slice -/
theorem Own.shape {w : World} {base : Nat} {v : Value} {l : List Int} (h : Own w base v l) :
    (v = .slice none 0 0 ∧ l = []) ∨ ∃ g cap, v = .slice (some ⟨g, 0, none⟩) l.length cap ∧ base ≤ g ∧ g < w.heap.size ∧ (∀ i, i < l.length → w.cell? ⟨g, i, none⟩ = some (.int .i64 (l.getD i 0))) ∧ (∀ i, w.frozen? ⟨g, i, none⟩ = false) := by
  have h' := h
  obtain ⟨_, h2⟩ := h
  rcases h2 with ⟨h2, h3⟩ | ⟨g, cap, cur, e1, e2, e3, _⟩
  · exact .inl ⟨h2, List.eq_nil_of_length_eq_zero h3⟩
  · refine .inr ⟨g, cap, e1, e2, (Array.getElem?_eq_some_iff.1 e3).1, ?_, ?_⟩
    · intro i hi
      subst e1
      have := World.ownsRow.cellAt h' i (by omega)
      rw [this]; simp [hi]
    · intro i
      subst e1
      exact World.ownsRow.frozenAt h' i

theorem wpList_append1 {ops : Array Oper} {rest : List Oper} {o : Oper} {a : Act} {Q : Exit → Act → World → Prop} {w0 : World} (hgd : o.guard = none) (s x : Operand)
    (ho : o.op = .call { callee := .builtin .append, args := #[s, x], argTypes := #[76, 76] })
    (base : Nat) (v : Value) (l : List Int) (y : Int) (hs : a.eval s = v) (hown : Own w0 base v l)
    (hx : a.eval x = .slice (some ⟨w0.heap.size, 0, none⟩) 1 1) (hlen : l.length ≤ 1000000) (hbase : base ≤ w0.heap.size)
    (h : ∀ v' w', Own w' base v' (l ++ [y]) → Below base w0 w' → w0.heap.size < w'.heap.size → wpList Tryd.prog ops Q rest (a.put o.dst v') w') :
    wpList Tryd.prog ops Q (o :: rest) a (w0.alloc (.cells #[.int .i64 y] 3)) := by
  obtain ⟨i0, hi, hz0, hz1, hz2⟩ := info_parts intInfo
  refine wpList_append_own _ hgd s x 76 ho base 3 i0 (.int .i64 0) 1 8 Tryd.underlying76 hi hz0 hz1 hz2 rfl (by decide) v l.length (l.map (Value.int .i64)) hs (World.ownsRow.alloc hown _)
    ⟨w0.heap.size, 0, none⟩ 1 1 [.int .i64 y] hx rfl ?_ ?_ ?_ ?_ ?_ ?_
  · intro j u hj
    match j, hj with
    | 0, hj =>
      simp at hj; subst hj
      exact cell_new w0 _ _ 0
  · intro u hu; simp at hu; subst hu; rfl
  · unfold maxLen; omega
  · omega
  · simp; omega
  · intro v' w' h1 h2 _
    have hsz := h2.size
    refine h v' w' ?_ ?_ ?_
    · unfold Own
      rw [List.length_append, List.map_append]; exact h1
    · refine Below.grown (row := v.ownBlock) ((Below.refl base w0).alloc hbase _) h2 (by simp; omega) ?_
      intro k hk
      exact (World.ownsRow.lt hown k hk).1
    · simp at hsz; omega
end Go.Proofs.YtbolgfiafbhicaaDoor
/- Slices of ints that are only read, whatever they lie in. -/
namespace Go.Proofs.YtbolgfiafbhicaaDoor
open Go.RowKit

/-- v is a slice that reads as the numbers l -/
def Sl (w : World) (v : Value) (l : List Int) : Prop :=
  (l = [] ∧ ∃ a cap, v = .slice a 0 cap) ∨
  (0 < l.length ∧ ∃ b off cap, v = .slice (some ⟨b, off, none⟩) l.length cap ∧ b < w.heap.size ∧ ∀ i, i < l.length → w.cell? ⟨b, off + i, none⟩ = some (.int .i64 (l.getD i 0)))
theorem Sl.keep {w w' : World} {v : Value} {l : List Int} (h : Sl w v l) (k : Below w.heap.size w w') : Sl w' v l := by
  rcases h with h | ⟨h0, b, off, cap, e, hb, hc⟩
  · exact .inl h
  · refine .inr ⟨h0, b, off, cap, e, Nat.lt_of_lt_of_le hb k.size, fun i hi => ?_⟩
    rw [← hc i hi]
    exact k.cell (p := ⟨b, off + i, none⟩) hb
theorem Sl.alloc {w : World} {v : Value} {l : List Int} (h : Sl w v l) (o : Obj) : Sl (w.alloc o) v l := h.keep (kin_alloc (Below.refl _ _) o)
theorem Own.sl {w : World} {base : Nat} {v : Value} {l : List Int} (h : Own w base v l) : Sl w v l := by
  rcases h.shape with ⟨h1, h2⟩ | ⟨g, cap, e, _, hg, hc, _⟩
  · exact .inl ⟨h2, none, 0, h1⟩
  · cases l with
    | nil => exact .inl ⟨rfl, some ⟨g, 0, none⟩, cap, e⟩
    | cons a l => exact .inr ⟨by simp, g, 0, cap, e, hg, fun i hi => by rw [Nat.zero_add]; exact hc i hi⟩
/-- what the frame of a law tells of a slice of integers that came in -/
def IsRow (k : IntKind) (w : World) (a : Option Addr) (len cap : Nat) (zs : List Int) : Prop :=
  (a = none ∧ len = 0 ∧ cap = 0 ∧ zs = []) ∨
  ∃ x, a = some x ∧ len ≤ cap ∧ cap ≤ maxLen ∧ zs.length = cap ∧ (∀ i, i < zs.length → w.cell? (x.add i) = some (.int k (zs.getD i 0))) ∧ ∀ n ∈ zs, (Lit.int k n).wf = true
theorem IsRow.sl {w : World} {a : Option Addr} {len cap : Nat} {zs : List Int} (h : IsRow .i64 w a len cap zs) : Sl w (.slice a len cap) (zs.take len) ∧ (zs.take len).length = len ∧ len ≤ maxLen := by
  rcases h with ⟨rfl, rfl, rfl, rfl⟩ | ⟨x, rfl, h1, h2, h3, h4, h5⟩
  · exact ⟨.inl ⟨rfl, none, 0, rfl⟩, rfl, by omega⟩
  · have hl : (zs.take len).length = len := by rw [List.length_take]; omega
    refine ⟨?_, hl, by omega⟩
    by_cases h0 : len = 0
    · subst h0; exact .inl ⟨by simp, some x, cap, rfl⟩
    · have hz := h4 0 (by omega)
      obtain ⟨b, off, spot⟩ := x
      have hs : spot = none := by
        cases spot with
        | none => rfl
        | some s =>
          unfold World.cell? at hz
          simp only [Addr.add] at hz
          split at hz
          · simp at hz
          · cases hz
      subst hs
      refine .inr ⟨by omega, b, off, cap, by rw [hl], ?_, fun i hi => ?_⟩
      · unfold World.cell? at hz
        simp only [Addr.add] at hz
        split at hz
        · next hq => exact (Array.getElem?_eq_some_iff.1 hq).1
        · cases hz
      · have := h4 i (by omega)
        rw [show ((⟨b, off, none⟩ : Addr).add i) = ⟨b, off + i, none⟩ from by simp [Addr.add]] at this
        rw [this]
        congr 2
        rw [List.getD_eq_getElem?_getD, List.getD_eq_getElem?_getD, List.getElem?_take_of_lt (by omega)]
end Go.Proofs.YtbolgfiafbhicaaDoor
/- The append law that says what is kept of another own slice. -/
namespace Go.Proofs.YtbolgfiafbhicaaDoor
open Go.RowKit

/-- two own slices that do not share a block -/
def Apart (v u : Value) : Prop := v.ownBlock = none ∨ v.ownBlock ≠ u.ownBlock
theorem Own.kept {w w' : World} {base : Nat} {v : Value} {l : List Int} {row : Option Nat} (h : Own w base v l) (hg : w.grownBy w' row) (hne : v.ownBlock = none ∨ v.ownBlock ≠ row) : Own w' base v l := World.ownsRow.kept h hg hne
theorem Own.blockLt {w : World} {base : Nat} {v : Value} {l : List Int} (h : Own w base v l) : ∀ k, v.ownBlock = some k → k < w.heap.size := by
  intro k hk
  obtain ⟨_, h2⟩ := h
  rcases h2 with ⟨rfl, _⟩ | ⟨g, cap, cur, rfl, _, e3, _⟩
  · cases hk
  · simp [Value.ownBlock] at hk; subst hk
    exact (Array.getElem?_eq_some_iff.1 e3).1

/-- append one number; what else is kept: every other own slice that is apart from it, and it stays apart -/
theorem wpList_append1_at {ops : Array Oper} {rest : List Oper} {o : Oper} {a : Act} {Q : Exit → Act → World → Prop} {w0 : World} (hgd : o.guard = none) (s x : Operand)
    (ho : o.op = .call { callee := .builtin .append, args := #[s, x], argTypes := #[76, 76] })
    (base : Nat) (v : Value) (l : List Int) (y : Int) (hs : a.eval s = v) (hown : Own w0 base v l)
    (hx : a.eval x = .slice (some ⟨w0.heap.size, 0, none⟩) 1 1) (hlen : l.length ≤ 1000000) (hbase : base ≤ w0.heap.size)
    (h : ∀ v' w', Own w' base v' (l ++ [y]) → Below base w0 w' → w0.heap.size < w'.heap.size →
      (∀ base1 u m, Own w0 base1 u m → Apart u v → Own w' base1 u m ∧ Apart u v' ∧ Apart v' u) → wpList Tryd.prog ops Q rest (a.put o.dst v') w') :
    wpList Tryd.prog ops Q (o :: rest) a (w0.alloc (.cells #[.int .i64 y] 3)) := by
  obtain ⟨i0, hi, hz0, hz1, hz2⟩ := info_parts intInfo
  refine wpList_append_own_at _ hgd s x 76 ho base 3 i0 (.int .i64 0) 1 8 Tryd.underlying76 hi hz0 hz1 hz2 rfl (by decide) v l.length (l.map (Value.int .i64)) hs (World.ownsRow.alloc hown _)
    ⟨w0.heap.size, 0, none⟩ 1 1 [.int .i64 y] hx rfl (cell_one_new _ _ _) ?_ ?_ ?_ ?_ ?_
  · intro u hu; simp at hu; subst hu; rfl
  · unfold maxLen; omega
  · omega
  · simp; omega
  · intro v' w' h1 h2 _ hat
    have hsz := h2.size
    have hsz0 : (w0.alloc (.cells #[.int .i64 y] 3)).heap.size = w0.heap.size + 1 := by simp
    refine h v' w' ?_ ?_ ?_ ?_
    · unfold Own
      rw [List.length_append, List.map_append]; exact h1
    · refine Below.grown (row := v.ownBlock) ((Below.refl base w0).alloc hbase _) h2 (by simp; omega) ?_
      intro k hk
      exact (World.ownsRow.lt hown k hk).1
    · omega
    · intro base1 u m hu hap
      refine ⟨(hu.alloc _).kept h2 hap, ?_, ?_⟩
      · rcases hap with hap | hap
        · exact .inl hap
        · rcases hat with hat | hat
          · exact .inr (by rw [hat]; exact hap)
          · refine .inr fun he => ?_
            have := hu.blockLt _ (he.trans hat)
            omega
      · by_cases hv : v'.ownBlock = none
        · exact .inl hv
        · refine .inr fun he => ?_
          rcases hat with hat | hat
          · rcases hap with hap | hap
            · exact hv (by rw [he, hap])
            · exact hap (by rw [← he, hat])
          · have := hu.blockLt _ (he.symm.trans hat)
            omega
end Go.Proofs.YtbolgfiafbhicaaDoor
/- Contract of nests.At. -/
namespace Go.Proofs.YtbolgfiafbhicaaDoor
open Go.RowKit

/-- the nest of rank k that still has so many steps to go, at a height -/
def atN : Nat → Nat → Nat → List UInt8
  | 0, _, _ => []
  | r + 1, h, k => if k < pathN r (h + 1) then 40 :: atN r (h + 1) k else 41 :: atN r (h - 1) (k - pathN r (h + 1))
theorem atN_len : ∀ r h k, (atN r h k).length = r
  | 0, _, _ => rfl
  | r + 1, h, k => by
    rw [atN]
    split
    · rw [List.length_cons, atN_len]
    · rw [List.length_cons, atN_len]

theorem strApp (l : List UInt8) (x : UInt8) : (⟨l.toArray⟩ : ByteArray) ++ ⟨#[x]⟩ = ⟨(l ++ [x]).toArray⟩ := by
  apply ByteArray.ext
  rw [ByteArray.data_append]
  simp

set_option maxHeartbeats 1000000 in
theorem nestAt_nat (n k : Nat) (w : World) (hn : n ≤ 15) (hk : k < catN n) :
    Calls Tryd.prog 38 #[.int .i64 n, .int .i64 k] w fun e w' => e = .returned (.tuple #[.string ⟨(atN (2 * n) 0 k).toArray⟩, .int .i64 0]) ∧ Below w.heap.size w w' := by
  have d1 : decide ((k : Int) < 0) = false := by simp
  have d2 : decide (catN n ≤ k) = false := by simp; omega
  go_enter Tryd.func38, Tryd.ntmps38
  go_wp2_with fail
  refine (nestCount_i _ n _ rfl hn).mono ?_; rintro e w1 ⟨rfl, hb⟩
  have HB := Lib.hid hb; clear hb
  go_wp2_with fail
  go_loopw [1, 8, 9] (fun kk s h wr => ∃ (r hh c : Nat) (pre : List UInt8), r ≤ 2 * n ∧ hh + r ≤ 2 * n ∧ Hid (pre ++ atN r hh c = atN (2 * n) 0 k) ∧ pre.length + r = 2 * n ∧ c < pathN r hh ∧ kk = .int .i64 c ∧ s = .string ⟨pre.toArray⟩ ∧ h = .int .i64 hh ∧ Below w.heap.size w wr) (fun _ s _ _ => match s with | .string b => 2 * n - b.size | _ => 0)
  case atStart => exact ⟨2 * n, 0, k, [], by omega, by omega, Lib.hid rfl, by simp, hk, rfl, rfl, rfl, HB.out⟩
  case round =>
    obtain ⟨r, hh, c, pre, hr, hrh, hp, hl, hc, rfl, rfl, rfl, hbel⟩ := hrel
    clear d1 d2
    replace HB := Lib.hid hbel; clear hbel
    by_cases h0 : r = 0
    · subst h0
      go_wp2_with fail
      go_ret2
      refine ⟨?_, HB.out⟩
      have h := hp.out
      rw [atN, List.append_nil] at h
      rw [← h]; rfl
    · obtain ⟨q, rfl⟩ : ∃ q, r = q + 1 := ⟨r - 1, by omega⟩
      have bp := pathN_le31 q (hh + 1) (by omega)
      have bc : c ≤ 2147483648 := Nat.le_trans (Nat.le_of_lt hc) (pathN_le31 (q + 1) hh (by omega))
      by_cases hx : c < pathN q (hh + 1)
      · have hp' : Hid ((pre ++ [40]) ++ atN q (hh + 1) c = atN (2 * n) 0 k) := Lib.hid (by rw [← hp.out, atN, if_pos hx]; simp)
        go_wp2_with fail
        refine (ways_i _ _ (hh + 1) q _ (by omega) (by omega) (by omega)).mono ?_; rintro e w2 ⟨rfl, hb⟩
        replace HB := Lib.hid (kin_trans HB.out hb); clear hb
        go_wp2_with fail
        refine ⟨⟨q, hh + 1, c, pre ++ [40], by omega, by omega, hp', by simp; omega, hx, rfl, by rw [strApp], by go_num, HB.out⟩, ?_⟩
        rw [strApp]
        simp [ByteArray.size]
        omega
      · have hp' : Hid ((pre ++ [41]) ++ atN q (hh - 1) (c - pathN q (hh + 1)) = atN (2 * n) 0 k) := Lib.hid (by rw [← hp.out, atN, if_neg hx]; simp)
        obtain ⟨g, rfl⟩ : ∃ g, hh = g + 1 := ⟨hh - 1, by
          cases hh with
          | zero => rw [pathN] at hc; exact absurd hc hx
          | succ g => rfl⟩
        have hc2 : c - pathN q (g + 1 + 1) < pathN q g := by
          rw [pathN] at hc; rw [show g + 1 + 1 = g + 2 from rfl] at hx ⊢; omega
        go_wp2_with fail
        refine (ways_i _ _ (g + 1 + 1) q _ (by omega) (by omega) (by omega)).mono ?_; rintro e w2 ⟨rfl, hb⟩
        replace HB := Lib.hid (kin_trans HB.out hb); clear hb
        go_wp2_with fail
        refine ⟨⟨q, g, c - pathN q (g + 1 + 1), pre ++ [41], by omega, by omega, hp', by simp; omega, hc2, val_int (by omega), by rw [strApp], val_int (by omega), HB.out⟩, ?_⟩
        rw [strApp]
        simp [ByteArray.size]
        omega

end Go.Proofs.YtbolgfiafbhicaaDoor
