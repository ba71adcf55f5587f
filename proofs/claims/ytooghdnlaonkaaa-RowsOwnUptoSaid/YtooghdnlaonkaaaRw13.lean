/- Several of my texts in one: SlFn, AtM. -/
import Derived.Test.YtooghdnlaonkaaaRw08
import Derived.RegionTactic
import Derived.ChangeAlike
import Derived.Test.YtooghdnlaonkaaaRw11
/- Contracts of slices.Clone and slices.Reverse over ints. -/
namespace Go.Proofs.Ytooghdnlaonkaaa
open Go.RowKit

def OneV (l : List Int) (n : Nat) (w : World) (e : Ending) (w' : World) : Prop :=
  ∃ (ad : Option Addr) (cp : Nat), e = .returned (.slice ad n cp) ∧ n ≤ cp ∧ Fr w w' [⟨3, .slice ad n cp, ints l⟩]

set_option maxRecDepth 100000 in
set_option maxHeartbeats 1000000 in
theorem slClone (l : List Int) (n : Nat) (a : Option Addr) (cap : Nat) (w : World) (h : Sa w a (ints l)) (hn : l.length = n) (hl : n ≤ 900000) :
    Calls Try.prog 24 #[.slice a n cap] w (OneV l n w) := by
  cases a with
  | none =>
    have h0 : n = 0 := by
      rcases Nat.eq_zero_or_pos n with h1 | h1
      · exact h1
      · obtain ⟨b, off, e, _⟩ := h (by rw [ints_len]; omega)
        cases e
    subst h0
    have hl0 := List.eq_nil_of_length_eq_zero hn
    subst hl0
    clear hn h
    have heq : ∀ w, Sem.run Try.prog (binOp .eql 32 (.slice none 0 cap) (.slice none 0 0)) w = .ok (.bool true) w := fun w => Lib.run_eql_slice_nil w 32 3 none 0 cap 0 0 Try.underlying32
    go_enter Try.func24, Try.ntmps24
    go_wp2_with fail
    go_ret
    exact ⟨_, _, rfl, by omega, (Fr.start w).nilSlice _⟩
  | some ad =>
    have HN := Lib.hid (show (ints l).length = n from by rw [ints_len, hn])
    have HS := Lib.hid (h.alloc (.cells #[] 3))
    have HF := Lib.hid ((Fr.start w).lit [] #[] rfl 0 rfl (by omega) 3)
    clear hn h
    have heq : ∀ w, Sem.run Try.prog (binOp .eql 32 (.slice (some ad) n cap) (.slice none 0 0)) w = .ok (.bool false) w := fun w => Lib.run_eql_slice_nil w 32 3 (some ad) n cap 0 0 Try.underlying32
    go_enter Try.func24, Try.ntmps24
    go_wp2_with (with_reducible refine at_slot 7 ?_; go_must (refine wpList_pushAll rfl (.tmp 5) (.tmp 6) 32 3 (.int .i64 0) 8 Try.underlying32 intInfo rfl (by omega) rfl _ (some ad) 0 0 n cap (ints []) (ints l) [] rfl HF.out rfl HS.out HN.out (fun e => by cases e) (ints_one l) (by omega) ?_); intro ad2 cp2 w2 hf2 hsz2)
    go_ret
    rw [Nat.zero_add] at hf2
    exact ⟨ad2, cp2, rfl, hf2.cap, hf2⟩

/-! Reverse -/
def revPart (off m t : Nat) (l : List Int) : List Int :=
  (List.range l.length).map fun p => if off ≤ p ∧ p < off + m ∧ (p < off + t ∨ off + m ≤ p + t) then nth l (off + off + m - 1 - p) else nth l p
def revSeg (off m : Nat) (l : List Int) : List Int := (List.range l.length).map fun p => if off ≤ p ∧ p < off + m then nth l (off + off + m - 1 - p) else nth l p
theorem nth_rangeMap (n : Nat) (f : Nat → Int) (p : Nat) (h : p < n) : nth ((List.range n).map f) p = f p := by simp [nth, h]
theorem revPart_len (off m t : Nat) (l : List Int) : (revPart off m t l).length = l.length := by simp [revPart]
theorem revSeg_len (off m : Nat) (l : List Int) : (revSeg off m l).length = l.length := by simp [revSeg]
theorem revSeg_nth (off m : Nat) (l : List Int) (p : Nat) (h : p < l.length) : nth (revSeg off m l) p = if off ≤ p ∧ p < off + m then nth l (off + off + m - 1 - p) else nth l p := nth_rangeMap _ _ _ h
theorem revPart_nth (off m t : Nat) (l : List Int) (p : Nat) (h : p < l.length) : nth (revPart off m t l) p = if off ≤ p ∧ p < off + m ∧ (p < off + t ∨ off + m ≤ p + t) then nth l (off + off + m - 1 - p) else nth l p := nth_rangeMap _ _ _ h
theorem revPart_zero (off m : Nat) (l : List Int) : revPart off m 0 l = l := by
  refine ext_nth (revPart_len _ _ _ _) (fun p hp => ?_)
  rw [revPart_len] at hp
  rw [revPart_nth _ _ _ _ _ hp, if_neg (by omega)]
theorem revPart_done (off m t : Nat) (l : List Int) (h : m ≤ 2 * t + 1) : revPart off m t l = revSeg off m l := by
  refine ext_nth (by rw [revPart_len, revSeg_len]) (fun p hp => ?_)
  rw [revPart_len] at hp
  rw [revPart_nth _ _ _ _ _ hp, revSeg_nth _ _ _ _ hp]
  by_cases h1 : off ≤ p ∧ p < off + m
  · rw [if_pos h1]
    by_cases h2 : p < off + t ∨ off + m ≤ p + t
    · rw [if_pos ⟨h1.1, h1.2, h2⟩]
    · rw [if_neg (fun h3 => h2 h3.2.2)]
      congr 1
      omega
  · rw [if_neg h1, if_neg (fun h3 => h1 ⟨h3.1, h3.2.1⟩)]
theorem revPart_step (off m t : Nat) (l : List Int) (h : off + m ≤ l.length) (ht : 2 * t + 1 < m) :
    ((revPart off m t l).set (off + t) (nth (revPart off m t l) (off + (m - 1 - t)))).set (off + (m - 1 - t)) (nth (revPart off m t l) (off + t)) = revPart off m (t + 1) l := by
  refine ext_nth (by simp [revPart_len]) (fun p hp => ?_)
  rw [List.length_set, List.length_set, revPart_len] at hp
  rw [nth_set _ _ _ _ (by rw [List.length_set, revPart_len]; omega), nth_set _ _ _ _ (by rw [revPart_len]; omega)]
  rw [revPart_nth off m t l _ (by omega : off + t < l.length), revPart_nth off m t l _ (by omega : off + (m - 1 - t) < l.length), revPart_nth off m t l p hp, revPart_nth off m (t + 1) l p hp]
  rw [if_neg (show ¬(off ≤ off + t ∧ off + t < off + m ∧ (off + t < off + t ∨ off + m ≤ off + t + t)) by omega), if_neg (show ¬(off ≤ off + (m - 1 - t) ∧ off + (m - 1 - t) < off + m ∧ (off + (m - 1 - t) < off + t ∨ off + m ≤ off + (m - 1 - t) + t)) by omega)]
  by_cases e1 : p = off + (m - 1 - t)
  · rw [if_pos e1, if_pos (by omega)]
    congr 1; omega
  · rw [if_neg e1]
    by_cases e2 : p = off + t
    · rw [if_pos e2, if_pos (by omega)]
      congr 1; omega
    · rw [if_neg e2]
      by_cases e3 : off ≤ p ∧ p < off + m ∧ (p < off + t ∨ off + m ≤ p + t)
      · rw [if_pos e3, if_pos (by omega)]
      · rw [if_neg e3, if_neg (by omega)]
theorem revSeg_all (l : List Int) : revSeg 0 l.length l = l.reverse := by
  refine ext_nth (by rw [revSeg_len, List.length_reverse]) (fun p hp => ?_)
  rw [revSeg_len] at hp
  rw [revSeg_nth _ _ _ _ hp, if_pos ⟨by omega, by omega⟩]
  unfold nth
  rw [List.getD_eq_getElem?_getD, List.getD_eq_getElem?_getD, List.getElem?_reverse (by omega)]
  congr 2; omega

set_option maxHeartbeats 2000000 in
theorem slReverse {w0 : World} (l : List Int) (n cap : Nat) (g off m cap' : Nat) (L : List Ent) (w : World) (hF : Fr w0 w (⟨3, .slice (some ⟨g, 0, none⟩) n cap, ints l⟩ :: L)) (hm : off + m ≤ l.length) (hl : m ≤ 1000000) :
    Calls Try.prog 100 #[.slice (some ⟨g, off, none⟩) m cap'] w fun e w' => e = .returned (.tuple #[]) ∧ Fr w0 w' (⟨3, .slice (some ⟨g, 0, none⟩) n cap, ints (revSeg off m l)⟩ :: L) := by
  have HF := Lib.hid hF; have HM := Lib.hid hm
  clear hF hm
  go_enter Try.func100, Try.ntmps100
  go_wp2_with fail
  go_loopw [2, 3] (fun i j wr => ∃ t : Nat, (t = 0 ∨ 2 * t ≤ m + 1) ∧ i = .int .i64 t ∧ j = .int .i64 ((m : Int) - 1 - t) ∧ Fr w0 wr (⟨3, .slice (some ⟨g, 0, none⟩) n cap, ints (revPart off m t l)⟩ :: L)) (fun i _ _ => m - (intOf i).toNat)
  case atStart => exact ⟨0, .inl rfl, rfl, by simp, by rw [revPart_zero]; exact HF.out⟩
  case round =>
    obtain ⟨t, ht, rfl, rfl, hfr⟩ := hrel
    clear HF
    by_cases hlt : 2 * t + 1 < m
    · obtain ⟨k, hk⟩ : ∃ k : Nat, k = m - 1 - t := ⟨_, rfl⟩
      rw [show (m : Int) - 1 - (t : Int) = (k : Int) from by omega]
      obtain ⟨g', e, _, _, hc, hz⟩ := hfr.open (by rw [ints_len, revPart_len]; have := HM.out; omega)
      cases e
      have hst := revPart_step off m t l HM.out hlt
      rw [← hk] at hst
      have l1 : off + t < (revPart off m t l).length := by rw [revPart_len]; have := HM.out; omega
      have l2 : off + k < (revPart off m t l).length := by rw [revPart_len]; have := HM.out; omega
      have c1 := hc (off + t) (by rw [ints_len]; exact l1)
      have c2 := hc (off + k) (by rw [ints_len]; exact l2)
      rw [ints_get _ _ l1] at c1
      rw [ints_get _ _ l2] at c2
      have z1 := hz (off + t)
      have z2 := hz (off + k)
      have HST := Lib.hid hst
      have HFR := Lib.hid hfr
      have tk : t < k := by omega
      have km : k < m := by omega
      have HK := Lib.hid hk
      clear hc hz hst l1 l2 hfr hk ht
      obtain ⟨x, hx⟩ : ∃ x, nth (revPart off m t l) (off + t) = x := ⟨_, rfl⟩
      obtain ⟨y, hy⟩ : ∃ y, nth (revPart off m t l) (off + k) = y := ⟨_, rfl⟩
      rw [hx] at c1
      rw [hy] at c2
      have HX := Lib.hid hx; have HY := Lib.hid hy
      clear hx hy
      have d1 : (0 : Int) ≤ (t : Int) := by omega
      have d2 : (t : Int) < (m : Int) := by omega
      have d3 : (0 : Int) ≤ (k : Int) := by omega
      have d4 : (k : Int) < (m : Int) := by omega
      have d5 : (t : Int) < (k : Int) := by omega
      go_wp2_with fail
      go_region
      go_wp2_with fail
      have F1 := (HFR.out.setInt (off + t) y)
      have F2 := (F1.setInt (off + k) x).drew
      rw [← HX.out, ← HY.out, HST.out] at F2
      rw [HX.out, HY.out] at F2
      refine ⟨⟨t + 1, .inr (by omega), by simp, by rw [val_int]; have := HK.out; omega, F2⟩, by simp only [intOf]; omega⟩
    · have hd : decide ((t : Int) < (m : Int) - 1 - (t : Int)) = false := decide_eq_false (by omega)
      rw [revPart_done off m t l (by omega)] at hfr
      go_wp2_with fail
      go_end0
      exact ⟨rfl, hfr⟩
end Go.Proofs.Ytooghdnlaonkaaa
/- Plain laws of rank.At. -/
namespace Go.Proofs.Ytooghdnlaonkaaa
open Go.RowKit

def dropAt (l : List Int) (d : Nat) : List Int := l.take d ++ l.drop (d + 1)
theorem dropAt_len (l : List Int) (d : Nat) (h : d < l.length) : (dropAt l d).length = l.length - 1 := by simp [dropAt]; omega
def atS : Nat → List Int → Nat → List Int
  | 0, _, _ => []
  | i + 1, left, k => nth left (k / facN i) :: atS i (dropAt left (k / facN i)) (k % facN i)
theorem atS_len : ∀ i left k, (atS i left k).length = i
  | 0, _, _ => rfl
  | i + 1, left, k => by rw [atS, List.length_cons, atS_len i]
theorem countP_dropAt (f : Int → Bool) (l : List Int) (d : Nat) (h : d < l.length) : (dropAt l d).countP f + (if f (nth l d) then 1 else 0) = l.countP f := by
  have e : l = l.take d ++ (nth l d :: l.drop (d + 1)) := by
    rw [show nth l d :: l.drop (d + 1) = l.drop d from by rw [List.drop_eq_getElem_cons h]; simp [nth, h], List.take_append_drop]
  conv => rhs; rw [e]
  unfold dropAt
  rw [List.countP_append, List.countP_append, List.countP_cons]
  by_cases hf : f (nth l d) <;> simp [hf] <;> omega
theorem div_lt {k i : Nat} (h : k < facN (i + 1)) : k / facN i < i + 1 := by
  rw [facN] at h
  exact Nat.div_lt_of_lt_mul (by rw [Nat.mul_comm]; exact h)
theorem atS_count (f : Int → Bool) : ∀ i left k, left.length = i → k < facN i → (atS i left k).countP f = left.countP f
  | 0, left, k, hl, _ => by rw [List.eq_nil_of_length_eq_zero hl]; rfl
  | i + 1, left, k, hl, hk => by
    have hd := div_lt hk
    have hc := countP_dropAt f left (k / facN i) (by omega)
    rw [atS, List.countP_cons, atS_count f i _ _ (by rw [dropAt_len _ _ (by omega)]; omega) (Nat.mod_lt _ (facN_pos i))]
    omega
def Incr (l : List Int) : Prop := ∀ i j, i < j → j < l.length → nth l i < nth l j
theorem dropAt_nth (l : List Int) (d i : Nat) (h : d < l.length) : nth (dropAt l d) i = if i < d then nth l i else nth l (i + 1) := by
  unfold dropAt nth
  rw [List.getD_eq_getElem?_getD, List.getElem?_append, List.length_take, Nat.min_eq_left (by omega)]
  by_cases hi : i < d
  · rw [if_pos hi, if_pos hi, List.getElem?_take_of_lt hi, List.getD_eq_getElem?_getD]
  · rw [if_neg hi, if_neg hi, List.getElem?_drop, List.getD_eq_getElem?_getD, show d + 1 + (i - d) = i + 1 from by omega]
theorem Incr.dropAt {l : List Int} (h : Incr l) (d : Nat) (hd : d < l.length) : Incr (dropAt l d) := fun i j hij hj => by
  rw [dropAt_len _ _ hd] at hj
  rw [dropAt_nth _ _ _ hd, dropAt_nth _ _ _ hd]
  split <;> split <;> exact h _ _ (by omega) (by omega)
theorem Incr.less {l : List Int} (h : Incr l) : ∀ d, d < l.length → lessC (nth l d) l = d := by
  intro d hd
  have h1 : lessC (nth l d) (l.take d) = (l.take d).length := by
    unfold lessC
    rw [List.countP_eq_length]
    intro y hy
    obtain ⟨i, hi, e2⟩ := List.getElem_of_mem hy
    rw [List.length_take] at hi
    rw [List.getElem_take] at e2
    have := h i d (by omega) hd
    have e3 : nth l i = y := by rw [← e2]; simp [nth, show i < l.length from by omega]
    simp; omega
  have h2 : lessC (nth l d) (l.drop d) = 0 := by
    unfold lessC
    rw [List.countP_eq_zero]
    intro y hy
    obtain ⟨i, hi, e2⟩ := List.getElem_of_mem hy
    rw [List.length_drop] at hi
    rw [List.getElem_drop] at e2
    have e3 : nth l (d + i) = y := by rw [← e2]; simp [nth, show d + i < l.length from by omega]
    rcases Nat.eq_zero_or_pos i with h0 | h0
    · subst h0; simp at e3 ⊢; omega
    · have := h d (d + i) (by omega) (by omega); simp; omega
  have h3 : lessC (nth l d) l = lessC (nth l d) (l.take d) + lessC (nth l d) (l.drop d) := by rw [← lessC_app, List.take_append_drop]
  rw [h3, h1, h2, List.length_take]; omega
theorem atS_code : ∀ i left k, left.length = i → k < facN i → Incr left → ofC (codeL (atS i left k)) = k
  | 0, left, k, _, hk, _ => by
    have : k = 0 := by rw [facN] at hk; omega
    subst this; rfl
  | i + 1, left, k, hl, hk, hi => by
    have hd := div_lt hk
    have hdl : k / facN i < left.length := by omega
    have hlen : (dropAt left (k / facN i)).length = i := by rw [dropAt_len _ _ hdl]; omega
    have hm := Nat.mod_lt k (facN_pos i)
    rw [atS, codeL, ofC, codeL_len, atS_len, atS_code i _ _ hlen hm (hi.dropAt _ hdl)]
    have e1 : lessC (nth left (k / facN i)) (atS i (dropAt left (k / facN i)) (k % facN i)) = k / facN i := by
      unfold lessC
      rw [atS_count _ i _ _ hlen hm]
      have h1 := countP_dropAt (fun y => decide (y < nth left (k / facN i))) left (k / facN i) hdl
      have h2 := hi.less _ hdl
      unfold lessC at h2
      simp at h1
      omega
    rw [e1, ← Int.natCast_mul, ← Int.natCast_add, Nat.mul_comm, Nat.div_add_mod]
def upTo (n : Nat) : List Int := (List.range n).map fun i : Nat => (i : Int)
theorem upTo_len (n : Nat) : (upTo n).length = n := by simp [upTo]
theorem upTo_nth (n i : Nat) (h : i < n) : nth (upTo n) i = i := by simp [nth, upTo, h]
theorem upTo_incr (n : Nat) : Incr (upTo n) := fun i j hij hj => by
  rw [upTo_len] at hj
  rw [upTo_nth _ _ (by omega), upTo_nth _ _ hj]; omega
theorem at_isP (n k : Nat) (hk : k < facN n) : IsP (atS n (upTo n) k) := by
  have hc := fun f => atS_count f n (upTo n) k (upTo_len n) hk
  refine ⟨fun i hi => ?_, ?_⟩
  · have hmem : nth (atS n (upTo n) k) i ∈ upTo n := by
      have h1 := hc (fun y => y == nth (atS n (upTo n) k) i)
      have h2 : 0 < (atS n (upTo n) k).countP (fun y => y == nth (atS n (upTo n) k) i) := List.countP_pos_iff.2 ⟨_, nth_mem _ i hi, by simp⟩
      rw [h1] at h2
      obtain ⟨y, hy, e⟩ := List.countP_pos_iff.1 h2
      simp at e
      rw [← e]; exact hy
    rw [atS_len] at hi ⊢
    obtain ⟨y, hy⟩ : ∃ y, nth (atS n (upTo n) k) i = y := ⟨_, rfl⟩
    rw [hy] at hmem ⊢
    simp only [upTo, List.mem_map, List.mem_range] at hmem
    obtain ⟨v, hv, e⟩ := hmem
    omega
  · have key : ∀ i j, i < j → j < (atS n (upTo n) k).length → nth (atS n (upTo n) k) i ≠ nth (atS n (upTo n) k) j := by
      intro i j hij hj e
      obtain ⟨p, hp⟩ : ∃ p, atS n (upTo n) k = p := ⟨_, rfl⟩
      rw [hp] at hj e hc
      have h2 : 2 ≤ p.countP (fun y => y == nth p j) := by
        have c1 : 0 < (p.take j).countP (fun y => y == nth p j) := List.countP_pos_iff.2 ⟨nth p i, by
          have := nth_mem (p.take j) i (by rw [List.length_take]; omega)
          rwa [nth_take _ _ _ hij] at this, by simp [e]⟩
        have c2 : 0 < (p.drop j).countP (fun y => y == nth p j) := List.countP_pos_iff.2 ⟨nth p j, by
          have := nth_mem (p.drop j) 0 (by rw [List.length_drop]; omega)
          rwa [nth_drop, Nat.add_zero] at this, by simp⟩
        have : p.countP (fun y => y == nth p j) = (p.take j).countP (fun y => y == nth p j) + (p.drop j).countP (fun y => y == nth p j) := by
          rw [← List.countP_append, List.take_append_drop]
        omega
      rw [hc] at h2
      have h3 : ∀ m (v : Int), (upTo m).countP (fun y => y == v) ≤ 1 ∧ ((upTo m).countP (fun y => y == v) = 1 → v < m) := by
        intro m v
        induction m with
        | zero => simp [upTo]
        | succ m ih =>
          have : upTo (m + 1) = upTo m ++ [(m : Int)] := by simp [upTo, List.range_succ]
          rw [this, List.countP_append, List.countP_singleton]
          obtain ⟨c, hc'⟩ : ∃ c, (upTo m).countP (fun y => y == v) = c := ⟨_, rfl⟩
          rw [hc'] at ih ⊢
          by_cases hv : (m : Int) = v
          · rw [if_pos (by simpa using hv)]
            have : c ≠ 1 := fun h => by have := ih.2 h; omega
            exact ⟨by omega, fun _ => by omega⟩
          · rw [if_neg (by simpa using hv)]
            exact ⟨by omega, fun h => by have := ih.2 (by omega); omega⟩
      have := (h3 n (nth p j)).1
      omega
    intro i j hi hj e
    rcases Nat.lt_trichotomy i j with h | h | h
    · exact absurd e (key i j h hj)
    · exact h
    · exact absurd e.symm (key j i h hi)
/-- an order is told by its number -/
theorem at_of {p : List Int} (h : IsP p) (n : Nat) (hn : p.length = n) (k : Nat) (hk : ofC (codeL p) = k) : atS n (upTo n) k = p := by
  have hb := ofC_bd (codeL p) (codeL_ok p)
  rw [codeL_len, hn, hk] at hb
  have hk2 : k < facN n := by omega
  have h1 := at_isP n k hk2
  have h2 := atS_code n (upTo n) k (upTo_len n) hk2 (upTo_incr n)
  refine code_inj h1 h (by rw [atS_len, hn]) (ofC_inj _ _ (codeL_ok _) (codeL_ok _) (by rw [codeL_len, codeL_len, atS_len, hn]) (by rw [h2, hk]))
end Go.Proofs.Ytooghdnlaonkaaa
