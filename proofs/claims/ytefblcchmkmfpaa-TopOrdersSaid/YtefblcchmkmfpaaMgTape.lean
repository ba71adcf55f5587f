/- Several of my texts in one: TapeM, Cat, Tape, Tape2, Tape3, ShCa. -/
import Derived.Test.YtefblcchmkmfpaaArr4
import Derived.Lib.AppendZerosOnto
import Derived.Test.YtefblcchmkmfpaaShuf
namespace Go.Proofs.Ytefblcchmkmfpaa
open Go.RowKit

def byts (l : List Int) : List Value := l.map (Value.int .u8)
theorem byts_len (l : List Int) : (byts l).length = l.length := by simp [byts]
theorem byts_one (l : List Int) : ∀ v ∈ byts l, v.oneCell' = true := ints_oneCell .u8 l
theorem byts_get (l : List Int) (i : Nat) (h : i < l.length) : (byts l)[i]? = some (.int .u8 (nth l i)) := by simp [byts, nth, h]
theorem byts_take (l : List Int) (k : Nat) : (byts l).take k = byts (l.take k) := by simp [byts, List.map_take]
theorem byts_drop (l : List Int) (k : Nat) : (byts l).drop k = byts (l.drop k) := by simp [byts, List.map_drop]
theorem byts_app (a b : List Int) : byts a ++ byts b = byts (a ++ b) := by simp [byts]
theorem byts_snoc (l : List Int) (x : Int) : byts l ++ [.int .u8 x] = byts (l ++ [x]) := by simp [byts]
theorem Sa.byt {w : World} {a : Option Addr} {l : List Int} (h : Sa w a (byts l)) (i : Nat) (hi : i < l.length) : ∃ b off, a = some ⟨b, off, none⟩ ∧ b < w.heap.size ∧ w.cell? ⟨b, off + i, none⟩ = some (.int .u8 (nth l i)) := by
  obtain ⟨b, off, e, hb, hc⟩ := h.at i (by rw [byts_len]; exact hi)
  exact ⟨b, off, e, hb, by rw [hc, byts_get l i hi]⟩
theorem IsRow.saK {k : IntKind} {w : World} {a : Option Addr} {len cap : Nat} {zs : List Int} (h : IsRow k w a len cap zs) :
    Sa w a ((zs.take len).map (Value.int k)) ∧ (zs.take len).length = len ∧ len ≤ maxLen ∧ (∀ x ∈ zs.take len, (Lit.int k x).wf = true) ∧ len ≤ cap ∧ (a = none → cap = 0 ∧ len = 0) := by
  rcases h with ⟨rfl, rfl, rfl, rfl⟩ | ⟨x, rfl, h1, h2, h3, h4, h5⟩
  · exact ⟨Sa.nil _ _, rfl, by omega, by simp, by omega, fun _ => ⟨rfl, rfl⟩⟩
  · have hl : (zs.take len).length = len := by rw [List.length_take]; omega
    refine ⟨fun h0 => ?_, hl, by omega, fun y hy => h5 y (List.mem_of_mem_take hy), h1, fun e => by cases e⟩
    rw [List.length_map, hl] at h0
    have hz := h4 0 (by omega)
    obtain ⟨b, off, spot⟩ := x
    have hs : spot = none := by
      cases spot with
      | none => rfl
      | some s =>
        unfold World.cell? at hz
        simp only [Addr.add] at hz
        split at hz
        · simp at hz
        · cases hz
    subst hs
    refine ⟨b, off, rfl, ?_, fun i hi => ?_⟩
    · unfold World.cell? at hz
      simp only [Addr.add] at hz
      split at hz
      · next hq => exact (Array.getElem?_eq_some_iff.1 hq).1
      · cases hz
    · rw [List.length_map, hl] at hi
      have := h4 i (by omega)
      rw [show ((⟨b, off, none⟩ : Addr).add i) = ⟨b, off + i, none⟩ from by simp [Addr.add]] at this
      rw [this]
      have hi2 : i < (zs.take len).length := by omega
      rw [List.getElem?_map, List.getElem?_eq_getElem hi2, Option.map_some, List.getElem_take]
      congr 2
      rw [List.getD_eq_getElem?_getD, List.getElem?_eq_getElem (by omega)]; rfl

/-! draws -/
def bitsF (n : Nat) : Nat → Nat → Nat
  | 0, k => k
  | f + 1, k => if 2 ^ k < n then bitsF n f (k + 1) else k
def bitsN (n : Nat) : Nat := bitsF n 10 0
theorem bitsF_spec (n : Nat) : ∀ f k, n ≤ 2 ^ (k + f) → n ≤ 2 ^ bitsF n f k ∧ k ≤ bitsF n f k ∧ bitsF n f k ≤ k + f ∧ ∀ j, k ≤ j → j < bitsF n f k → 2 ^ j < n
  | 0, k, h => ⟨by rw [bitsF]; simpa using h, Nat.le_refl _, Nat.le_refl _, fun j h1 h2 => by rw [bitsF] at h2; omega⟩
  | f + 1, k, h => by
    by_cases h1 : 2 ^ k < n
    · rw [bitsF, if_pos h1]
      obtain ⟨a, b, c, d⟩ := bitsF_spec n f (k + 1) (by rw [show k + 1 + f = k + (f + 1) from by omega]; exact h)
      refine ⟨a, by omega, by omega, fun j h2 h3 => ?_⟩
      by_cases e : j = k
      · subst e; exact h1
      · exact d j (by omega) h3
    · rw [bitsF, if_neg h1]
      exact ⟨by omega, Nat.le_refl _, by omega, fun j h2 h3 => by omega⟩
theorem bitsN_spec (n : Nat) (h : n ≤ 1024) : n ≤ 2 ^ bitsN n ∧ bitsN n ≤ 10 ∧ ∀ j, j < bitsN n → 2 ^ j < n := by
  obtain ⟨a, b, c, d⟩ := bitsF_spec n 10 0 (by simpa using h)
  exact ⟨a, by unfold bitsN; omega, fun j hj => d j (by omega) hj⟩
def valL (l : List Int) : Int := l.foldl (fun x b => 2 * x + b) 0
theorem valL_snoc (l : List Int) (b : Int) : valL (l ++ [b]) = 2 * valL l + b := by simp [valL]
def Bit01 (l : List Int) : Prop := ∀ x ∈ l, 0 ≤ x ∧ x ≤ 1
theorem Bit01.take {l : List Int} (h : Bit01 l) (k : Nat) : Bit01 (l.take k) := fun x hx => h x (List.mem_of_mem_take hx)
theorem Bit01.drop {l : List Int} (h : Bit01 l) (k : Nat) : Bit01 (l.drop k) := fun x hx => h x (List.mem_of_mem_drop hx)
theorem Bit01.app {l m : List Int} (h : Bit01 l) (k : Bit01 m) : Bit01 (l ++ m) := fun x hx => by
  rcases List.mem_append.1 hx with hx | hx
  · exact h x hx
  · exact k x hx
theorem valL_bd : ∀ (k : Nat) (l : List Int), Bit01 l → k ≤ l.length → 0 ≤ valL (l.take k) ∧ valL (l.take k) < ((2 ^ k : Nat) : Int)
  | 0, l, _, _ => by simp [valL]
  | k + 1, l, h, hk => by
    have ih := valL_bd k l h (by omega)
    have := h (nth l k) (nth_mem l k (by omega))
    rw [take_nth l k (by omega), valL_snoc, Nat.pow_succ]
    generalize 2 ^ k = P at *
    omega
/-- a draw: the rest of the tape, how far it has come -/
def drawF (k : Nat) (n : Int) : Nat → List Int → Nat → Option (Int × Nat)
  | 0, _, _ => none
  | f + 1, r, at' => if k ≤ r.length then (if valL (r.take k) < n then some (valL (r.take k), at' + k) else drawF k n f (r.drop k) (at' + k)) else none
theorem drawF_fuel (k : Nat) (n : Int) (hk : 0 < k) : ∀ f g r a, r.length < f → r.length < g → drawF k n f r a = drawF k n g r a
  | 0, _, _, _, h, _ => by omega
  | _ + 1, 0, _, _, _, h => by omega
  | f + 1, g + 1, r, a, h1, h2 => by
    rw [drawF, drawF]
    by_cases hl : k ≤ r.length
    · rw [if_pos hl, if_pos hl, drawF_fuel k n hk f g (r.drop k) (a + k) (by rw [List.length_drop]; omega) (by rw [List.length_drop]; omega)]
    · rw [if_neg hl, if_neg hl]
def drawR (k : Nat) (n : Int) (r : List Int) (a : Nat) : Option (Int × Nat) := drawF k n (r.length + 1) r a
theorem drawR_yes (k : Nat) (n : Int) (r : List Int) (a : Nat) (h : k ≤ r.length) (h2 : valL (r.take k) < n) : drawR k n r a = some (valL (r.take k), a + k) := by
  rw [drawR, drawF, if_pos h, if_pos h2]
theorem drawR_no (k : Nat) (n : Int) (r : List Int) (a : Nat) (hk : 0 < k) (h : k ≤ r.length) (h2 : ¬ valL (r.take k) < n) : drawR k n r a = drawR k n (r.drop k) (a + k) := by
  rw [drawR, drawF, if_pos h, if_neg h2, drawR]
  exact drawF_fuel k n hk _ _ _ _ (by rw [List.length_drop]; omega) (by omega)
theorem drawR_short (k : Nat) (n : Int) (r : List Int) (a : Nat) (h : ¬ k ≤ r.length) : drawR k n r a = none := by
  rw [drawR, drawF, if_neg h]
/-- what a draw has used is enough, and no less is -/
theorem draw_on (k : Nat) (n : Int) (hk : 0 < k) (m : List Int) : ∀ (d : Nat) (r : List Int) (a : Nat) (v : Int) (u : Nat), r.length ≤ d → drawR k n r a = some (v, u) →
    ∃ e, u = a + e ∧ 0 < e ∧ e ≤ r.length ∧ v < n ∧ drawR k n (r.take e ++ m) a = some (v, u) ∧ drawR k n (r.take (e - 1)) a = none
  | d, r, a, v, u, hd, h => by
    by_cases hl : k ≤ r.length
    · by_cases hv : valL (r.take k) < n
      · rw [drawR_yes k n r a hl hv] at h
        simp only [Option.some.injEq, Prod.mk.injEq] at h
        obtain ⟨rfl, rfl⟩ := h
        refine ⟨k, rfl, hk, hl, hv, ?_, ?_⟩
        · have e : (r.take k ++ m).take k = r.take k := by
            rw [List.take_append, List.take_take, Nat.min_self, List.length_take, Nat.min_eq_left hl, Nat.sub_self]; simp
          rw [drawR_yes k n _ a (by rw [List.length_append, List.length_take]; omega) (by rw [e]; exact hv), e]
        · exact drawR_short k n _ a (by rw [List.length_take]; omega)
      · rw [drawR_no k n r a hk hl hv] at h
        cases d with
        | zero => omega
        | succ d =>
          obtain ⟨e, h1, h2, h3, h4, h5, h6⟩ := draw_on k n hk m d (r.drop k) (a + k) v u (by rw [List.length_drop]; omega) h
          rw [List.length_drop] at h3
          have t1 : ∀ j (m : List Int), (r.take (k + j) ++ m).take k = r.take k := fun j m => by
            rw [List.take_append, List.take_take, Nat.min_eq_left (by omega), List.length_take, show k - min (k + j) r.length = 0 from by omega]; simp
          have t2 : ∀ j (m : List Int), (r.take (k + j) ++ m).drop k = (r.drop k).take j ++ m := fun j m => by
            rw [List.drop_append, List.length_take, show k - min (k + j) r.length = 0 from by omega, List.drop_take, show k + j - k = j from by omega]; rfl
          refine ⟨k + e, by omega, by omega, by omega, h4, ?_, ?_⟩
          · rw [drawR_no k n _ a hk (by rw [List.length_append, List.length_take]; omega) (by rw [t1]; exact hv), t2]; exact h5
          · have q1 := t1 (e - 1) []
            have q2 := t2 (e - 1) []
            rw [List.append_nil] at q1 q2
            rw [List.append_nil] at q2
            rw [show k + e - 1 = k + (e - 1) from by omega, drawR_no k n _ a hk (by rw [List.length_take]; omega) (by rw [q1]; exact hv), q2]; exact h6
    · rw [drawR_short k n r a hl] at h; cases h
theorem drawR_at (k : Nat) (n : Int) : ∀ (d : Nat) (r : List Int) (a b : Nat), r.length ≤ d → drawR k n r (a + b) = (drawR k n r b).map (fun p => (p.1, a + p.2))
  | d, r, a, b, hd => by
    by_cases hl : k ≤ r.length
    · by_cases hv : valL (r.take k) < n
      · rw [drawR_yes k n r _ hl hv, drawR_yes k n r _ hl hv]; simp; omega
      · by_cases hk : 0 < k
        · rw [drawR_no k n r _ hk hl hv, drawR_no k n r _ hk hl hv]
          cases d with
          | zero => omega
          | succ d => rw [show a + b + k = a + (b + k) from by omega]; exact drawR_at k n d (r.drop k) a (b + k) (by rw [List.length_drop]; omega)
        · obtain rfl : k = 0 := by omega
          have z : ∀ f x, drawF 0 n f r x = none := by
            intro f
            induction f with
            | zero => intro x; rfl
            | succ f ih =>
              intro x
              rw [drawF, if_pos hl, if_neg hv, List.drop_zero]; exact ih _
          rw [drawR, drawR, z, z]; rfl
    · rw [drawR_short k n r _ hl, drawR_short k n r _ hl]; rfl
end Go.Proofs.Ytefblcchmkmfpaa
namespace Go.Proofs.Ytefblcchmkmfpaa
open Go.RowKit

theorem Fr.room {w0 w : World} {L : List Ent} (h : Fr w0 w L) (T : TypeId) (cs : Array Value) (G : Nat) (hG : cs.size = G) (hm : G ≤ maxLen) :
    Fr w0 (w.drew.alloc (.cells cs T)) (⟨T, .slice (some ⟨w.heap.size, 0, .none⟩) 0 G, []⟩ :: L) := by
  have ha := h.drew.alloc (.cells cs T)
  have hb := h.bel.size
  refine ⟨ha.bel, ⟨fun e he => ?_, List.pairwise_cons.2 ⟨fun b hb => .inr ?_, h.os.far⟩⟩⟩
  · rcases List.mem_cons.1 he with rfl | he
    · refine ⟨by simp, .inr ⟨w.heap.size, G, cs, rfl, hb, ?_, by simp, hm, by simpa using hG, by simp⟩⟩
      show (w.drew.heap.push _)[w.heap.size]? = _
      exact Array.getElem?_push_size
    · exact ha.os.own e he
  · intro e
    have := (Ent.own.lt (h.os.own b hb) _ e.symm).2
    simp only at this
    omega
theorem u8Info : (Try.prog.info? 5).map (fun i => (i.zero, i.size, i.bytes)) = some (some (.int .u8 0), 1, 1) := by kernel_rfl


end Go.Proofs.Ytefblcchmkmfpaa
namespace Go.Proofs.Ytefblcchmkmfpaa
open Go.RowKit

set_option maxHeartbeats 1000000 in
theorem tpChk (l : List Int) (n : Nat) (a : Option Addr) (cap : Nat) (w : World) (h : Sa w a (byts l)) (hn : l.length = n) (hp : Bit01 l) (hl : n ≤ 200) :
    Calls Try.prog 58 #[.slice a n cap] w fun e w' => e = .returned (.int .i64 0) ∧ w = w' := by
  have HN := Lib.hid hn; have HS := Lib.hid h; have HP := Lib.hid hp
  clear hn h hp
  go_enter Try.func58, Try.ntmps58
  go_wp2_with fail
  go_loop [10] (fun i => ∃ k : Nat, k ≤ n ∧ i = .int .i64 k) (fun i => n - (intOf i).toNat)
  case atStart => exact ⟨0, by omega, rfl⟩
  case round =>
    obtain ⟨k, hk, rfl⟩ := hrel
    by_cases hlt : k < n
    · obtain ⟨b, off, rfl, hb, hc⟩ := HS.out.byt k (by rw [HN.out]; exact hlt)
      obtain ⟨p1, p2⟩ := HP.out (nth l k) (nth_mem _ _ (by rw [HN.out]; exact hlt))
      obtain ⟨x, hx⟩ : ∃ x, nth l k = x := ⟨_, rfl⟩
      rw [hx] at hc p1 p2
      clear hx
      go_wp2_with fail
      exact ⟨⟨k + 1, by omega, by simp⟩, by simp only [intOf]; omega⟩
    · go_wp2_with fail
      go_ret
      exact ⟨rfl, rfl⟩

set_option maxHeartbeats 1000000 in
theorem tpBits (n : Int) (w : World) (h1 : 1 ≤ n) (h2 : n ≤ 1024) :
    Calls Try.prog 73 #[.int .i64 n] w fun e w' => e = .returned (.tuple #[.int .i64 (bitsN n.toNat : Nat), .int .i64 0]) ∧ w = w' := by
  obtain ⟨m, hm⟩ : ∃ m : Nat, n = m := ⟨n.toNat, by omega⟩
  subst hm
  rw [Int.toNat_natCast]
  go_enter Try.func73, Try.ntmps73
  go_wp2_with fail
  go_loop [4] (fun i => ∃ k : Nat, k ≤ 10 ∧ i = .int .i64 k ∧ Hid (bitsN m = bitsF m (10 - k) k)) (fun i => 10 - (intOf i).toNat)
  case atStart => exact ⟨0, by omega, rfl, Lib.hid rfl⟩
  case round =>
    obtain ⟨k, hk, rfl, HB⟩ := hrel
    by_cases hlt : 2 ^ k < m
    · have h10 : k < 10 := by
        rcases Nat.lt_or_ge k 10 with h | h
        · exact h
        · obtain rfl : k = 10 := by omega
          have : 2 ^ 10 = 1024 := by decide
          omega
      have HB2 : Hid (bitsN m = bitsF m (10 - (k + 1)) (k + 1)) := Lib.hid (by
        rw [HB.out, show 10 - k = (10 - (k + 1)) + 1 from by omega, bitsF, if_pos hlt])
      clear HB hk
      match k, h10, hlt, HB2 with
      | 0, _, hlt, HB2 => (go_wp2_with fail; exact ⟨⟨1, by omega, rfl, HB2⟩, by decide⟩)
      | 1, _, hlt, HB2 => (go_wp2_with fail; exact ⟨⟨2, by omega, rfl, HB2⟩, by decide⟩)
      | 2, _, hlt, HB2 => (go_wp2_with fail; exact ⟨⟨3, by omega, rfl, HB2⟩, by decide⟩)
      | 3, _, hlt, HB2 => (go_wp2_with fail; exact ⟨⟨4, by omega, rfl, HB2⟩, by decide⟩)
      | 4, _, hlt, HB2 => (go_wp2_with fail; exact ⟨⟨5, by omega, rfl, HB2⟩, by decide⟩)
      | 5, _, hlt, HB2 => (go_wp2_with fail; exact ⟨⟨6, by omega, rfl, HB2⟩, by decide⟩)
      | 6, _, hlt, HB2 => (go_wp2_with fail; exact ⟨⟨7, by omega, rfl, HB2⟩, by decide⟩)
      | 7, _, hlt, HB2 => (go_wp2_with fail; exact ⟨⟨8, by omega, rfl, HB2⟩, by decide⟩)
      | 8, _, hlt, HB2 => (go_wp2_with fail; exact ⟨⟨9, by omega, rfl, HB2⟩, by decide⟩)
      | 9, _, hlt, HB2 => (go_wp2_with fail; exact ⟨⟨10, by omega, rfl, HB2⟩, by decide⟩)
    · have HE : Hid (bitsN m = k) := Lib.hid (by
        rw [HB.out]
        cases h : 10 - k with
        | zero => rfl
        | succ f => rw [bitsF, if_neg hlt])
      clear HB
      have done : ∀ j : Nat, bitsN m = j → Ending.returned (.tuple #[.int .i64 (j : Int), .int .i64 0]) = .returned (.tuple #[.int .i64 (bitsN m : Nat), .int .i64 0]) := fun j hj => by rw [hj]
      match k, hk, hlt, HE with
      | 0, _, hlt, HE => (go_wp2_with fail; go_ret2; exact ⟨done 0 HE.out, rfl⟩)
      | 1, _, hlt, HE => (go_wp2_with fail; go_ret2; exact ⟨done 1 HE.out, rfl⟩)
      | 2, _, hlt, HE => (go_wp2_with fail; go_ret2; exact ⟨done 2 HE.out, rfl⟩)
      | 3, _, hlt, HE => (go_wp2_with fail; go_ret2; exact ⟨done 3 HE.out, rfl⟩)
      | 4, _, hlt, HE => (go_wp2_with fail; go_ret2; exact ⟨done 4 HE.out, rfl⟩)
      | 5, _, hlt, HE => (go_wp2_with fail; go_ret2; exact ⟨done 5 HE.out, rfl⟩)
      | 6, _, hlt, HE => (go_wp2_with fail; go_ret2; exact ⟨done 6 HE.out, rfl⟩)
      | 7, _, hlt, HE => (go_wp2_with fail; go_ret2; exact ⟨done 7 HE.out, rfl⟩)
      | 8, _, hlt, HE => (go_wp2_with fail; go_ret2; exact ⟨done 8 HE.out, rfl⟩)
      | 9, _, hlt, HE => (go_wp2_with fail; go_ret2; exact ⟨done 9 HE.out, rfl⟩)
      | 10, _, hlt, HE => (go_wp2_with fail; go_ret2; exact ⟨done 10 HE.out, rfl⟩)
end Go.Proofs.Ytefblcchmkmfpaa
namespace Go.Proofs.Ytefblcchmkmfpaa
open Go.RowKit

def ret3 (x u e : Int) : Ending := .returned (.tuple #[.int .i64 x, .int .i64 u, .int .i64 e])
def DrawSaid (l : List Int) (n : Int) (w : World) (e : Ending) (w' : World) : Prop :=
  w = w' ∧ ((¬ (1 ≤ n ∧ n ≤ 1024) ∧ e = ret3 0 0 1) ∨ (1 ≤ n ∧ n ≤ 1024 ∧ ((∃ (x : Int) (u : Nat), drawR (bitsN n.toNat) n l 0 = some (x, u) ∧ e = ret3 x u 0) ∨ (drawR (bitsN n.toNat) n l 0 = none ∧ e = ret3 0 0 6))))
theorem u8Elem : Try.prog.elem 49 = 5 := by kernel_rfl
theorem u8Size : (Try.prog.info? 5).map (fun i => i.size) = some 1 := by kernel_rfl
theorem tpBits_no (n : Int) (w : World) (h : ¬ (1 ≤ n ∧ n ≤ 1024)) :
    Calls Try.prog 73 #[.int .i64 n] w fun e w' => e = .returned (.tuple #[.int .i64 0, .int .i64 1]) ∧ w = w' := by
  by_cases h1 : n < 1
  · clear h
    go_enter Try.func73, Try.ntmps73
    go_wp2_with fail
    go_ret2
    exact ⟨rfl, rfl⟩
  · have h2 : 1024 < n := by omega
    clear h
    go_enter Try.func73, Try.ntmps73
    go_wp2_with fail
    go_ret2
    exact ⟨rfl, rfl⟩
theorem pow_10 : ∀ j, j ≤ 10 → 2 ^ j ≤ 1024 := by decide

set_option maxRecDepth 100000 in
set_option maxHeartbeats 2000000 in
theorem tpDraw (l : List Int) (m : Nat) (a : Option Addr) (cap : Nat) (n : Int) (w : World) (h : Sa w a (byts l)) (hm : l.length = m) (hp : Bit01 l) (hl : m ≤ 200) (hc : m ≤ cap) :
    Calls Try.prog 68 #[.slice a m cap, .int .i64 n] w (DrawSaid l n w) := by
  have HM := Lib.hid hm; have HS := Lib.hid h; have HP := Lib.hid hp
  clear hm h hp
  by_cases hn : 1 ≤ n ∧ n ≤ 1024
  · have HNN := Lib.hid hn
    obtain ⟨n1, n2⟩ := hn
    obtain ⟨k1, k2, k3⟩ := bitsN_spec n.toNat (by omega)
    go_enter Try.func68, Try.ntmps68
    go_wp2_with fail
    refine (tpChk l m _ _ _ HS.out HM.out HP.out hl).mono ?_; rintro e w' ⟨rfl, rfl⟩
    go_wp2_with fail
    refine (tpBits n _ n1 n2).mono ?_; rintro e w' ⟨rfl, rfl⟩
    obtain ⟨k, hk⟩ : ∃ k, bitsN n.toNat = k := ⟨_, rfl⟩
    rw [hk] at k2 ⊢
    have HK := Lib.hid hk
    clear k1 k3 hk
    go_wp2_with fail
    go_loop [10] (fun i => ∃ p : Nat, p ≤ m ∧ i = .int .i64 p ∧ Hid (drawR k n l 0 = drawR k n (l.drop p) p)) (fun i => m - (intOf i).toNat)
    case atStart => exact ⟨0, by omega, rfl, Lib.hid (by rw [List.drop_zero])⟩
    case round =>
      obtain ⟨p, hpm, rfl, HD⟩ := hrel
      have hlen : (l.drop p).length = m - p := by rw [List.length_drop, HM.out]
      have HLEN := Lib.hid hlen; clear hlen
      by_cases hle : p + k ≤ m
      · obtain ⟨ad', cp', hsl, hsa, hcp⟩ := slice_midT 49 5 Try.underlying49 u8Elem u8Size a m cap p k hle hc (byts l) (by rw [byts_len, HM.out])
        have hs1 := hsa _ HS.out
        rw [byts_drop, byts_take] at hs1
        have HS1 := Lib.hid hs1
        have HQ : Hid (((l.drop p).take k).length = k) := Lib.hid (by rw [List.length_take, HLEN.out]; omega)
        have HB := Lib.hid ((HP.out.drop p))
        clear hsa hs1
        go_wp2_with fail
        clear hsl
        go_loop [11, 43] (fun x i => ∃ j : Nat, j ≤ k ∧ i = .int .i64 j ∧ x = .int .i64 (valL ((l.drop p).take j))) (fun _ i => k - (intOf i).toNat)
        case atStart => exact ⟨0, by omega, rfl, rfl⟩
        case round =>
          obtain ⟨j, hj, rfl, rfl⟩ := hrel
          by_cases hlt : j < k
          · obtain ⟨b, off, rfl, hb, hcell⟩ := HS1.out.byt j (by rw [HQ.out]; exact hlt)
            rw [nth_take _ _ _ hlt] at hcell
            obtain ⟨p1, p2⟩ := HB.out (nth (l.drop p) j) (nth_mem _ _ (by rw [HLEN.out]; omega))
            obtain ⟨v1, v2⟩ := valL_bd j (l.drop p) HB.out (by rw [HLEN.out]; omega)
            have v3 := pow_10 j (by omega)
            have v4 : valL ((l.drop p).take j) < 1024 := by omega
            have hs := Lib.hid (show valL ((l.drop p).take (j + 1)) = _ from by rw [take_nth _ j (by rw [HLEN.out]; omega), valL_snoc])
            obtain ⟨x, hx⟩ : ∃ x, nth (l.drop p) j = x := ⟨_, rfl⟩
            obtain ⟨V, hV⟩ : ∃ V, valL ((l.drop p).take j) = V := ⟨_, rfl⟩
            rw [hx] at hcell p1 p2
            rw [hV] at v1 v4 ⊢
            have HX := Lib.hid hx; have HV := Lib.hid hV
            clear hx hV v2 v3
            go_wp2_with fail
            exact ⟨⟨j + 1, by omega, by simp, by rw [hs.out, HX.out, HV.out]⟩, by simp only [intOf]; omega⟩
          · obtain rfl : j = k := by omega
            have hyes := drawR_yes j n (l.drop p) p (by rw [HLEN.out]; omega)
            have hno := fun hk => drawR_no j n (l.drop p) p hk (by rw [HLEN.out]; omega)
            have hz : j = 0 → valL ((l.drop p).take j) = 0 := fun h => by subst h; rfl
            obtain ⟨V, hV⟩ : ∃ V, valL ((l.drop p).take j) = V := ⟨_, rfl⟩
            rw [hV] at hyes hno hz ⊢
            clear hV
            by_cases hvn : V < n
            · have HY := Lib.hid (hyes hvn)
              clear hyes hno hz
              go_wp2_with fail
              go_ret3
              exact ⟨rfl, .inr ⟨HNN.out.1, HNN.out.2, .inl ⟨V, p + j, by rw [HK.out, HD.out, HY.out], rfl⟩⟩⟩
            · have j0 : 0 < j := by
                rcases Nat.eq_zero_or_pos j with h | h
                · have := hz h; omega
                · exact h
              have HY := Lib.hid (hno j0 hvn)
              clear hyes hno hz
              go_wp2_with fail
              refine ⟨⟨p + j, by omega, by simp, Lib.hid ?_⟩, by simp only [intOf]; omega⟩
              rw [HD.out, HY.out, List.drop_drop]
      · have HY := Lib.hid (drawR_short k n (l.drop p) p (by rw [HLEN.out]; omega))
        go_wp2_with fail
        go_ret3
        exact ⟨rfl, .inr ⟨HNN.out.1, HNN.out.2, .inr ⟨by rw [HK.out, HD.out, HY.out], rfl⟩⟩⟩
  · go_enter Try.func68, Try.ntmps68
    go_wp2_with fail
    refine (tpChk l m _ _ _ HS.out HM.out HP.out hl).mono ?_; rintro e w' ⟨rfl, rfl⟩
    go_wp2_with fail
    refine (tpBits_no n _ hn).mono ?_; rintro e w' ⟨rfl, rfl⟩
    go_wp2_with fail
    go_ret3
    exact ⟨rfl, .inl ⟨hn, rfl⟩⟩

def MadeBy (l : List Int) (w : World) (e : Ending) (w' : World) : Prop :=
  ∃ (ad : Option Addr) (n cp : Nat), e = .returned (.slice ad n cp) ∧ l.length = n ∧ n ≤ cp ∧ Fr w w' [⟨5, .slice ad n cp, byts l⟩]
def bitsL (l : List Int) (t : Nat) : List Int := (l.take t).map (· % 2)
theorem bitsL_01 (l : List Int) (t : Nat) : Bit01 (bitsL l t) := fun x hx => by
  simp only [bitsL, List.mem_map] at hx
  obtain ⟨y, _, rfl⟩ := hx
  omega

end Go.Proofs.Ytefblcchmkmfpaa
namespace Go.Proofs.Ytefblcchmkmfpaa
open Go.RowKit

theorem drop_nthT (l : List Int) (k : Nat) (h : k < l.length) : l.drop k = nth l k :: l.drop (k + 1) := by
  rw [List.drop_eq_getElem_cons h]; simp [nth, h]
theorem drawF_le (k : Nat) (n : Int) : ∀ f r a v u, drawF k n f r a = some (v, u) → u ≤ a + r.length
  | 0, r, a, v, u, h => by cases h
  | f + 1, r, a, v, u, h => by
    rw [drawF] at h
    split at h
    · split at h
      · simp only [Option.some.injEq, Prod.mk.injEq] at h; omega
      · have := drawF_le k n f _ _ v u h
        rw [List.length_drop] at this; omega
    · cases h
theorem drawF_bd (k : Nat) (n : Int) : ∀ f r a v u, Bit01 r → drawF k n f r a = some (v, u) → 0 ≤ v ∧ v < n
  | 0, r, a, v, u, _, h => by cases h
  | f + 1, r, a, v, u, hb, h => by
    rw [drawF] at h
    split at h
    · next hk =>
      split at h
      · simp only [Option.some.injEq, Prod.mk.injEq] at h; have := valL_bd k r hb hk; omega
      · exact drawF_bd k n f _ _ v u (hb.drop k) h
    · cases h
def comb (out : List Int) (a : Nat) : Except Int (List Int × Nat) → Except Int (List Int × Nat)
  | .error e => .error e
  | .ok (o, b) => .ok (out ++ o, a + b)
theorem comb_comb (x y : List Int) (a b : Nat) (r : Except Int (List Int × Nat)) : comb x a (comb y b r) = comb (x ++ y) (a + b) r := by
  rcases r with e | ⟨o, c⟩
  · rfl
  · simp [comb, Nat.add_assoc]
theorem comb_nil (r : Except Int (List Int × Nat)) : comb [] 0 r = r := by
  rcases r with e | ⟨o, c⟩
  · rfl
  · simp [comb]
def rowS : List Int → List Int → Except Int (List Int × Nat)
  | [], _ => .ok ([], 0)
  | n :: r, l => if 1 ≤ n ∧ n ≤ 1024 then (match drawR (bitsN n.toNat) n l 0 with
      | none => .error 6
      | some (x, u) => comb [x] u (rowS r (l.drop u))) else .error 1
theorem rowS_bad (n : Int) (r l : List Int) (h : ¬ (1 ≤ n ∧ n ≤ 1024)) : rowS (n :: r) l = .error 1 := by rw [rowS, if_neg h]
theorem rowS_short (n : Int) (r l : List Int) (h : 1 ≤ n ∧ n ≤ 1024) (h2 : drawR (bitsN n.toNat) n l 0 = none) : rowS (n :: r) l = .error 6 := by rw [rowS, if_pos h, h2]
theorem rowS_ok (n : Int) (r l : List Int) (h : 1 ≤ n ∧ n ≤ 1024) (x : Int) (u : Nat) (h2 : drawR (bitsN n.toNat) n l 0 = some (x, u)) : rowS (n :: r) l = comb [x] u (rowS r (l.drop u)) := by rw [rowS, if_pos h, h2]
theorem rowS_len : ∀ (r l o : List Int) (a : Nat), rowS r l = .ok (o, a) → o.length = r.length ∧ a ≤ l.length
  | [], l, o, a, h => by
    rw [rowS] at h; simp only [Except.ok.injEq, Prod.mk.injEq] at h
    obtain ⟨rfl, rfl⟩ := h; exact ⟨rfl, by omega⟩
  | n :: r, l, o, a, h => by
    by_cases hn : 1 ≤ n ∧ n ≤ 1024
    · cases hd : drawR (bitsN n.toNat) n l 0 with
      | none => rw [rowS_short n r l hn hd] at h; cases h
      | some p =>
        obtain ⟨x, u⟩ := p
        rw [rowS_ok n r l hn x u hd] at h
        have hu := drawF_le _ _ _ _ _ _ _ hd
        cases hr : rowS r (l.drop u) with
        | error e => rw [hr] at h; cases h
        | ok q =>
          obtain ⟨o', b⟩ := q
          rw [hr] at h
          simp only [comb, Except.ok.injEq, Prod.mk.injEq] at h
          obtain ⟨rfl, rfl⟩ := h
          have := rowS_len r (l.drop u) o' b hr
          rw [List.length_drop] at this
          refine ⟨by simp; omega, by omega⟩
    · rw [rowS_bad n r l hn] at h; cases h
theorem rowS_cut : ∀ (k : Nat) (r l o : List Int) (u : Nat), rowS r l = .ok (o, u) → k ≤ r.length →
    ∃ a v b w, rowS (r.take k) l = .ok (a, v) ∧ v ≤ l.length ∧ rowS (r.drop k) (l.drop v) = .ok (b, w) ∧ u = v + w ∧ o = a ++ b
  | 0, r, l, o, u, h, _ => ⟨[], 0, o, u, by rw [List.take_zero]; rfl, by omega, by simpa using h, by omega, rfl⟩
  | k + 1, [], l, o, u, h, hk => by simp at hk
  | k + 1, n :: r, l, o, u, h, hk => by
    by_cases hn : 1 ≤ n ∧ n ≤ 1024
    · cases hd : drawR (bitsN n.toNat) n l 0 with
      | none => rw [rowS_short n r l hn hd] at h; cases h
      | some p =>
        obtain ⟨x, t⟩ := p
        rw [rowS_ok n r l hn x t hd] at h
        have hu := drawF_le _ _ _ _ _ _ _ hd
        cases hr : rowS r (l.drop t) with
        | error e => rw [hr] at h; cases h
        | ok q =>
          obtain ⟨o', c⟩ := q
          rw [hr] at h
          simp only [comb, Except.ok.injEq, Prod.mk.injEq] at h
          obtain ⟨rfl, rfl⟩ := h
          obtain ⟨a, v, b, w, h1, h2, h3, h4, h5⟩ := rowS_cut k r (l.drop t) o' c hr (by simpa using hk)
          rw [List.length_drop] at h2
          refine ⟨x :: a, t + v, b, w, ?_, by omega, ?_, by omega, by rw [h5]; rfl⟩
          · rw [List.take_succ_cons, rowS_ok n _ l hn x t hd, h1]; rfl
          · rw [List.drop_succ_cons]; rw [List.drop_drop] at h3; exact h3
    · rw [rowS_bad n r l hn] at h; cases h

def RowSaid (l most : List Int) (m : Nat) (w : World) (e : Ending) (w' : World) : Prop :=
  (∃ o u ad cp, rowS most l = .ok (o, u) ∧ e = .returned (.tuple #[.slice ad m cp, .int .i64 (u : Nat), .int .i64 0]) ∧ Fr w w' [⟨3, .slice ad m cp, ints o⟩]) ∨
  (∃ err : Int, (err = 1 ∨ err = 6) ∧ rowS most l = .error err ∧ e = .returned (.tuple #[.slice none 0 0, .int .i64 0, .int .i64 err]) ∧ Fr w w' [])

set_option maxRecDepth 100000 in
set_option maxHeartbeats 2000000 in
theorem tpRow (l most : List Int) (n m : Nat) (a b : Option Addr) (ca cb : Nat) (w : World) (h : Sa w a (byts l)) (h' : Sa w b (ints most)) (hn : l.length = n) (hm : most.length = m) (hp : Bit01 l) (hl : n ≤ 200) (hc : n ≤ ca) (hm2 : m ≤ 30) :
    Calls Try.prog 59 #[.slice a n ca, .slice b m cb] w (RowSaid l most m w) := by
  have HN := Lib.hid hn; have HM := Lib.hid hm; have HS := Lib.hid h; have HS' := Lib.hid h'; have HP := Lib.hid hp
  clear hn hm h h' hp
  have q : decide ((30 : Int) < (m : Int)) = false := decide_eq_false (by omega)
  go_enter Try.func59, Try.ntmps59
  go_wp2_with fail
  refine (tpChk l n _ _ _ HS.out HN.out HP.out hl).mono ?_; rintro e w' ⟨rfl, rfl⟩
  go_wp2_with fail
  clear q
  go_loopw [8, 9, 25] (fun o at' i wr => ∃ (k p : Nat) (ad : Option Addr) (cp : Nat) (out : List Int), k ≤ m ∧ p ≤ n ∧ i = .int .i64 k ∧ at' = .int .i64 p ∧ o = .slice ad k cp ∧ Hid (rowS most l = comb out p (rowS (most.drop k) (l.drop p))) ∧ Fr w wr [⟨3, .slice ad k cp, ints out⟩]) (fun _ _ i _ => m - (intOf i).toNat)
  case atStart => exact ⟨0, 0, none, 0, [], by omega, by omega, rfl, rfl, rfl, Lib.hid (by rw [comb_nil]; rfl), (Fr.start w).nilSlice _⟩
  case round =>
    obtain ⟨k, p, ad, cp, out, hk, hpn, rfl, rfl, rfl, HR, hfr⟩ := hrel
    by_cases hlt : k < m
    · obtain ⟨b', off, rfl, hb, hcell⟩ := (hfr.old HS'.out).int k (by rw [HM.out]; exact hlt)
      have hd := drop_nthT most k (by rw [HM.out]; exact hlt)
      obtain ⟨x, hx⟩ : ∃ x, nth most k = x := ⟨_, rfl⟩
      rw [hx] at hcell hd
      have hr := HR.out
      rw [hd] at hr
      have HR2 := Lib.hid hr
      have HF := Lib.hid hfr
      obtain ⟨ad', cp', hsl, hsa, hcp⟩ := slice_fromT 49 5 Try.underlying49 u8Elem u8Size a n ca p hpn hc (byts l) (by rw [byts_len, HN.out])
      have hs1 := hsa _ (hfr.old HS.out)
      rw [byts_drop] at hs1
      have HS1 := Lib.hid hs1
      have HL1 : Hid ((l.drop p).length = n - p) := Lib.hid (by rw [List.length_drop, HN.out])
      clear hx hd hr hfr HR hsa hs1
      have d1 : (0 : Int) ≤ (k : Int) := by omega
      have d2 : (k : Int) < (m : Int) := by omega
      go_wp2_with fail
      clear hsl
      refine (tpDraw (l.drop p) (n - p) _ _ x _ HS1.out HL1.out (HP.out.drop p) (by omega) hcp).mono ?_; rintro e w' ⟨rfl, he⟩
      rcases he with ⟨he, rfl⟩ | ⟨n1, n2, ⟨v, u, he, rfl⟩ | ⟨he, rfl⟩⟩
      · have HE : Hid (rowS most l = .error 1) := Lib.hid (by rw [HR2.out, rowS_bad _ _ _ he]; rfl)
        unfold ret3
        go_wp2_with fail
        go_ret3
        exact .inr ⟨1, .inl rfl, HE.out, rfl, HF.out.below⟩
      · have hu := drawF_le _ _ _ _ _ _ _ he
        have HE : Hid (rowS most l = comb (out ++ [v]) (p + u) (rowS (most.drop (k + 1)) (l.drop (p + u)))) := Lib.hid (by
          rw [HR2.out, rowS_ok _ _ _ ⟨n1, n2⟩ v u he, comb_comb, List.drop_drop])
        rw [HL1.out, Nat.zero_add] at hu
        clear he
        unfold ret3
        go_wp2_with (with_reducible refine at_slot 44 ?_; go_must (refine wpList_pushInt' rfl _ _ rfl ad k cp _ v _ _ rfl rfl HF.out rfl ?_ ?_); rotate_left; intro ad2 cp2 w2 hf2 hlt2)
        · exact ⟨⟨k + 1, p + u, ad2, cp2, out ++ [v], by omega, by omega, by simp, by simp, rfl, HE, hf2⟩, by simp only [intOf]; omega⟩
        · omega
      · have HE : Hid (rowS most l = .error 6) := Lib.hid (by rw [HR2.out, rowS_short _ _ _ ⟨n1, n2⟩ he]; rfl)
        unfold ret3
        go_wp2_with fail
        go_ret3
        exact .inr ⟨6, .inr rfl, HE.out, rfl, HF.out.below⟩
    · obtain rfl : k = m := by omega
      have HE : Hid (rowS most l = .ok (out, p)) := Lib.hid (by rw [HR.out, List.drop_of_length_le (by rw [HM.out]; omega)]; simp [rowS, comb])
      go_wp2_with fail
      go_ret3
      exact .inl ⟨out, p, ad, cp, HE.out, rfl, hfr⟩
end Go.Proofs.Ytefblcchmkmfpaa
namespace Go.Proofs.Ytefblcchmkmfpaa
open Go.RowKit

theorem Fr.none' {w0 w : World} {L : List Ent} {i : Nat} {T : TypeId} {ad : Option Addr} {n cap : Nat} {xs : List Value} (h : Fr w0 w L) (he : L[i]? = some ⟨T, .slice ad n cap, xs⟩) : ad = .none → cap = 0 ∧ n = 0 := fun e => by
  have := (h.pick (List.mem_of_getElem? he)).none e
  exact ⟨this.2, this.1⟩
theorem bitsL_len (l : List Int) (t : Nat) : (bitsL l t).length ≤ t := by unfold bitsL; rw [List.length_map, List.length_take]; omega
theorem u8_bd {l : List Int} (h : ∀ x ∈ l, (Lit.int .u8 x).wf = true) : ∀ x ∈ l, 0 ≤ x ∧ x ≤ 255 := fun x hx => by
  have := h x hx
  simp [Lit.wf, go_sem] at this
  have e1 : IntKind.u8.min = 0 := by decide
  have e2 : IntKind.u8.max = 255 := by decide
  omega
/-- 1 .. n -/
def oneTo (n : Nat) : List Int := (List.range n).map fun i : Nat => (i : Int) + 1
theorem oneTo_len (n : Nat) : (oneTo n).length = n := by simp [oneTo]
theorem oneTo_succ (n : Nat) : oneTo (n + 1) = oneTo n ++ [(n : Int) + 1] := by simp [oneTo, List.range_succ]
theorem oneTo_nth (n i : Nat) (h : i < n) : nth (oneTo n) i = (i : Int) + 1 := by simp [nth, oneTo, h]
theorem rowS_bds : ∀ (r l o : List Int) (a : Nat), Bit01 l → rowS r l = .ok (o, a) → ∀ i, i < o.length → 0 ≤ nth o i ∧ nth o i < nth r i
  | [], l, o, a, _, h, i, hi => by
    rw [rowS] at h; simp only [Except.ok.injEq, Prod.mk.injEq] at h
    obtain ⟨rfl, rfl⟩ := h; simp at hi
  | n :: r, l, o, a, hb, h, i, hi => by
    by_cases hn : 1 ≤ n ∧ n ≤ 1024
    · cases hd : drawR (bitsN n.toNat) n l 0 with
      | none => rw [rowS_short n r l hn hd] at h; cases h
      | some p =>
        obtain ⟨x, u⟩ := p
        rw [rowS_ok n r l hn x u hd] at h
        have hx := drawF_bd _ _ _ _ _ _ _ hb hd
        cases hr : rowS r (l.drop u) with
        | error e => rw [hr] at h; cases h
        | ok q =>
          obtain ⟨o', b⟩ := q
          rw [hr] at h
          simp only [comb, Except.ok.injEq, Prod.mk.injEq] at h
          obtain ⟨rfl, rfl⟩ := h
          cases i with
          | zero => simpa [nth] using hx
          | succ i =>
            have := rowS_bds r (l.drop u) o' b (hb.drop u) hr i (by simpa using hi)
            simpa [nth] using this
    · rw [rowS_bad n r l hn] at h; cases h
theorem row_lots {l o : List Int} {n a : Nat} (hb : Bit01 l) (h : rowS (oneTo n) l = .ok (o, a)) : LotOk o ∧ o.length = n := by
  have hl := (rowS_len _ _ _ _ h).1
  rw [oneTo_len] at hl
  refine ⟨fun i hi => ?_, hl⟩
  have := rowS_bds _ _ _ _ hb h i hi
  rw [oneTo_nth n i (by omega)] at this
  omega

def CastSaid (l : List Int) (n : Int) (w : World) (e : Ending) (w' : World) : Prop :=
  (∃ (m : Nat) (o : List Int) (u : Nat) (ad : Option Addr) (cp : Nat), n = m ∧ m ≤ 10 ∧ rowS (oneTo m) l = .ok (o, u) ∧ m ≤ cp ∧ e = .returned (.tuple #[.slice ad m cp, .int .i64 (u : Nat), .int .i64 0]) ∧ Fr w w' [⟨3, .slice ad m cp, ints (dealL o)⟩]) ∨
  (∃ err : Int, err ≠ 0 ∧ (∀ m : Nat, n = m → m ≤ 10 → ∀ o u, rowS (oneTo m) l ≠ .ok (o, u)) ∧ e = .returned (.tuple #[.slice none 0 0, .int .i64 0, .int .i64 err]) ∧ Fr w w' [])

set_option maxRecDepth 100000 in
set_option maxHeartbeats 4000000 in
theorem shCast (l : List Int) (k : Nat) (a : Option Addr) (cap : Nat) (n : Int) (w : World) (h : Sa w a (byts l)) (hk : l.length = k) (hp : Bit01 l) (hl : k ≤ 200) (hc : k ≤ cap) :
    Calls Try.prog 31 #[.slice a k cap, .int .i64 n] w (CastSaid l n w) := by
  have HK := Lib.hid hk; have HS := Lib.hid h; have HP := Lib.hid hp
  clear hk h hp
  by_cases hn : 0 ≤ n ∧ n ≤ 10
  · obtain ⟨m, rfl⟩ : ∃ m : Nat, n = m := ⟨n.toNat, by omega⟩
    have m10 : m ≤ 10 := by omega
    have d1 : decide ((m : Int) < 0) = false := decide_eq_false (by omega)
    have d2 : decide ((10 : Int) < (m : Int)) = false := decide_eq_false (by omega)
    clear hn
    go_enter Try.func31, Try.ntmps31
    go_wp2_with fail
    refine (tpChk l k _ _ _ HS.out HK.out HP.out hl).mono ?_; rintro e w' ⟨rfl, rfl⟩
    go_wp2_with fail
    clear d1 d2
    go_loopw [8, 27] (fun o i wr => ∃ (j : Nat) (ad : Option Addr) (cp : Nat), j ≤ m ∧ i = .int .i64 j ∧ o = .slice ad j cp ∧ Fr w wr [⟨3, .slice ad j cp, ints (oneTo j)⟩]) (fun _ i _ => m - (intOf i).toNat)
    case atStart => exact ⟨0, none, 0, by omega, rfl, rfl, (Fr.start w).nilSlice _⟩
    case round =>
      obtain ⟨j, ad, cp, hj, rfl, rfl, hfr⟩ := hrel
      by_cases hlt : j < m
      · have HF := Lib.hid hfr
        clear hfr
        go_wp2_with (with_reducible refine at_slot 34 ?_; go_must (refine wpList_pushInt rfl _ _ rfl ad j cp _ ((j : Int) + 1) _ rfl HF.out rfl ?_ ?_); rotate_left; intro ad' cp' w3 hf2 hlt2)
        · rw [← oneTo_succ] at hf2
          exact ⟨⟨j + 1, ad', cp', by omega, by simp, rfl, hf2⟩, by simp only [intOf]; omega⟩
        · omega
      · obtain rfl : j = m := by omega
        go_wp2_with fail
        refine (tpRow l (oneTo j) k j _ _ _ _ _ (hfr.old HS.out) (hfr.get 0 rfl) HK.out (oneTo_len j) HP.out hl hc (by omega)).mono ?_; rintro e w3 he
        rcases he with ⟨o, u, ad3, cp3, ho, rfl, hf⟩ | ⟨err, herr, ho, rfl, hf⟩
        · have F3 := hfr.below.call hf
          obtain ⟨lo, ll⟩ := row_lots HP.out ho
          have HO := Lib.hid ho; have LO := Lib.hid lo; have LL := Lib.hid ll
          clear ho lo ll hf hfr
          go_wp2_with fail
          refine (shDeal o j _ _ _ (F3.get 0 rfl) LL.out LO.out m10).mono ?_; rintro e w4 ⟨ad4, cp4, rfl, hc4, hf⟩
          have F4 := F3.below.call hf
          go_wp2_with fail
          go_ret3
          exact .inl ⟨j, o, u, ad4, cp4, rfl, m10, HO.out, hc4, rfl, F4⟩
        · have q : (err != 0) = true := by rw [bne_iff_ne]; omega
          have F3 := hfr.below.keep hf.bel
          have HO : Hid (∀ m : Nat, (j : Int) = m → m ≤ 10 → ∀ o u, rowS (oneTo m) l ≠ .ok (o, u)) := Lib.hid fun m hm _ o u h => by
            obtain rfl : m = j := by omega
            rw [ho] at h; cases h
          clear ho
          go_wp2_with fail
          go_ret3
          exact .inr ⟨err, by omega, HO.out, rfl, F3⟩
  · by_cases h0 : n < 0
    · have d1 : decide (n < 0) = true := decide_eq_true h0
      clear hn
      go_enter Try.func31, Try.ntmps31
      go_wp2_with fail
      refine (tpChk l k _ _ _ HS.out HK.out HP.out hl).mono ?_; rintro e w' ⟨rfl, rfl⟩
      go_wp2_with fail
      go_ret3
      exact .inr ⟨1, by omega, fun m hm _ => by omega, rfl, Fr.start w⟩
    · have d1 : decide (n < 0) = false := decide_eq_false h0
      have d2 : decide (10 < n) = true := decide_eq_true (by omega)
      have hn10 : 10 < n := by omega
      clear hn h0
      go_enter Try.func31, Try.ntmps31
      go_wp2_with fail
      refine (tpChk l k _ _ _ HS.out HK.out HP.out hl).mono ?_; rintro e w' ⟨rfl, rfl⟩
      go_wp2_with fail
      go_ret3
      exact .inr ⟨1, by omega, fun m hm hm2 => by omega, rfl, Fr.start w⟩

end Go.Proofs.Ytefblcchmkmfpaa
