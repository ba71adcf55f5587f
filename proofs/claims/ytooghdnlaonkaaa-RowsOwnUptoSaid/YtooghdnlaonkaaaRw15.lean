/- Several of my texts in one: Evt, Rms, OneS, Spo, SpoU, SlCmp2. -/
import Derived.Test.YtooghdnlaonkaaaRw09
import Derived.Test.YtooghdnlaonkaaaRw12
import Derived.Test.YtooghdnlaonkaaaRw07
import Derived.Deep.QuietTactic
import Derived.Test.YtooghdnlaonkaaaRw14
/- Contracts of package event. -/
namespace Go.Proofs.Ytooghdnlaonkaaa
open Go.RowKit

def hws (l : List Nat) : List Value := l.map fun s : Nat => Value.int .u16 (s : Int)
theorem hws_len (l : List Nat) : (hws l).length = l.length := by simp [hws]
theorem hws_get (l : List Nat) (i : Nat) (h : i < l.length) : (hws l)[i]? = some (.int .u16 ((l.getD i 0 : Nat) : Int)) := by simp [hws, h]

end Go.Proofs.Ytooghdnlaonkaaa
/- Rows that are only read. -/
namespace Go.Proofs.Ytooghdnlaonkaaa
open Go.RowKit

/-- the row of the rows -/
abbrev outE (ad : Option Addr) (n cap : Nat) (R : List Rw) : Ent := ⟨32, .slice ad n cap, R.map rv⟩
def lsR (R : List Rw) : List (List Int) := R.map fun p => p.2.2
theorem lsR_len (R : List Rw) : (lsR R).length = R.length := by simp [lsR]
theorem lsR_get (R : List Rw) (i : Nat) (h : i < R.length) : (lsR R)[i]'(by rw [lsR_len]; exact h) = R[i].2.2 := by simp [lsR]
theorem lsR_set (R : List Rw) (i : Nat) (p : Rw) : lsR (R.set i p) = (lsR R).set i p.2.2 := by simp [lsR, List.map_set]
/-- rows that read as these -/
structure Rm (w : World) (a : Option Addr) (R : List Rw) : Prop where
  out : Sa w a (R.map rv)
  row : ∀ p ∈ R, Sa w p.1 (ints p.2.2)
theorem Rm.keep {w w' : World} {a : Option Addr} {R : List Rw} (h : Rm w a R) (k : Below w.heap.size w w') : Rm w' a R := ⟨h.out.keep k, fun p hp => (h.row p hp).keep k⟩
theorem Rm.at {w : World} {a : Option Addr} {R : List Rw} (h : Rm w a R) (i : Nat) (hi : i < R.length) : ∃ b off, a = some ⟨b, off, .none⟩ ∧ b < w.heap.size ∧ w.cell? ⟨b, off + i, .none⟩ = some (rv R[i]) ∧ Sa w R[i].1 (ints R[i].2.2) := by
  obtain ⟨b, off, e, hb, hc⟩ := h.out.at i (by simpa using hi)
  exact ⟨b, off, e, hb, by rw [hc, List.getElem?_map, List.getElem?_eq_getElem hi]; rfl, h.row _ (List.getElem_mem hi)⟩
end Go.Proofs.Ytooghdnlaonkaaa
/- One slice and an error, handed back. -/
namespace Go.Proofs.Ytooghdnlaonkaaa
open Go.RowKit

theorem bothR {a b c d : Int} (h1 : a = b) (h2 : c = d) : Ending.returned (.tuple #[.int .i64 a, .int .i64 c]) = .returned (.tuple #[.int .i64 b, .int .i64 d]) := by rw [h1, h2]
def OneSl (l : List Int) (n : Nat) (err : Int) (w : World) (e : Ending) (w' : World) : Prop :=
  ∃ ad cp, e = .returned (.tuple #[.slice ad n cp, .int .i64 err]) ∧ n ≤ cp ∧ Fr w w' [⟨3, .slice ad n cp, ints l⟩]
end Go.Proofs.Ytooghdnlaonkaaa
/- castkeep.spoil over the call's own slices; slices.Contains over ints. -/
namespace Go.Proofs.Ytooghdnlaonkaaa
open Go.RowKit

/-- an own slice as long as its capacity -/
theorem Fr.full {w0 w : World} {L : List Ent} {T : TypeId} {ad : Option Addr} {n cap : Nat} {xs : List Value} (h : Fr w0 w (⟨T, .slice ad n cap, xs⟩ :: L)) : n ≤ cap ∧ cap ≤ maxLen ∧ (cap = 0 → n = 0) ∧ (0 < cap → ∃ g, ad = some ⟨g, 0, .none⟩) ∧ ∃ ys, ys.length = cap ∧ Fr w0 w (⟨T, .slice ad cap cap, ys⟩ :: L) := by
  have hO := h.os.own _ List.mem_cons_self
  have hf := List.pairwise_cons.1 h.os.far
  obtain ⟨h1, ⟨rfl, rfl, rfl⟩ | ⟨g, cur, rfl, h2, h3, h4, h5, h6, h7⟩⟩ := hO.elim
  · exact ⟨by simp [h1], Nat.zero_le _, fun _ => h1, fun h => by omega, [], rfl, by rw [show n = 0 from h1] at h; exact h⟩
  · refine ⟨h4, h5, fun e => by omega, fun _ => ⟨g, rfl⟩, cur.toList, by simp [h6], h.bel, fun e he => ?_, List.pairwise_cons.2 ⟨fun b hb => hf.1 b hb, hf.2⟩⟩
    rcases List.mem_cons.1 he with rfl | he
    · refine ⟨by simp, .inr ⟨g, cap, cur, by simp [h6], h2, h3, by simp [h6], h5, by simp [h6], ?_⟩⟩
      rw [Nat.mul_one]
      exact List.take_of_length_le (Nat.le_refl _)
    · exact h.os.own e (List.mem_cons_of_mem _ he)
set_option maxRecDepth 100000 in
set_option maxHeartbeats 4000000 in
theorem spoilI {w0 w : World} {L : List Ent} (T : TypeId) (ad : Option Addr) (n cap : Nat) (xs : List Value) (v : Int) (h : Fr w0 w (⟨T, .slice ad n cap, xs⟩ :: L)) :
    Calls Try.prog 12 #[.slice ad n cap, .int .i64 v] w fun e w' => (∃ u, e = .returned u) ∧ Fr w0 w' L := by
  obtain ⟨h1, h2, h3, h4, ys, hy, hf⟩ := h.full
  have HF := Lib.hid hf
  have HY := Lib.hid hy
  unfold maxLen at h2
  have b1 : (n : Int) ≤ (cap : Int) := by omega
  clear h hf hy
  rcases Nat.eq_zero_or_pos cap with h0 | h0
  · subst h0
    obtain rfl := h3 rfl
    have HS := Lib.hid HF.out.tail
    clear HF h3 h4 b1 h1
    cases ad
    all_goals
      go_enter Try.func12, Try.ntmps12
      go_wp2_with fail
      go_loopw [11] (fun q wr => q = .int .i64 0 ∧ Hid (Fr w0 wr L)) (fun _ _ => 0)
      case atStart => exact ⟨rfl, HS⟩
      case round =>
        obtain ⟨rfl, HR⟩ := hrel
        go_wp2_with fail
        go_end0
        exact ⟨⟨_, rfl⟩, HR.out⟩
  · obtain ⟨g, rfl⟩ := h4 h0
    clear h3 h4
    go_enter Try.func12, Try.ntmps12
    go_wp2_with fail
    go_loopw [11] (fun q wr => ∃ (k : Nat) (zs : List Value), k ≤ cap ∧ q = .int .i64 k ∧ zs.length = cap ∧ Hid (Fr w0 wr (⟨T, .slice (some ⟨g, 0, none⟩) cap cap, zs⟩ :: L))) (fun q _ => cap - (intOf q).toNat)
    case atStart => exact ⟨0, ys, by omega, rfl, HY.out, HF⟩
    case round =>
      obtain ⟨k, zs, hk, rfl, hz, HR⟩ := hrel
      by_cases hlt : k < cap
      · obtain ⟨g', e, -, -, hc, hfz⟩ := HR.out.open (by rw [hz]; omega)
        cases e
        have c0 := hc k (by rw [hz]; exact hlt)
        obtain ⟨u, hu⟩ : ∃ u, zs[k]? = some u := ⟨_, List.getElem?_eq_getElem (by rw [hz]; exact hlt)⟩
        rw [hu] at c0
        have z0 := hfz k
        have HR2 := Lib.hid (HR.out.set k (.int .i64 v))
        have d1 : (0 : Int) ≤ (k : Int) := by omega
        have d2 : (k : Int) < (cap : Int) := by omega
        clear hc hfz hu
        go_wp2_with fail
        exact ⟨⟨k + 1, zs.set k (.int .i64 v), by omega, by simp, by rw [List.length_set]; exact hz, HR2⟩, by simp only [intOf]; omega⟩
      · obtain rfl : k = cap := by omega
        go_wp2_with fail
        go_end0
        exact ⟨⟨_, rfl⟩, HR.out.tail⟩
set_option maxRecDepth 100000 in
set_option maxHeartbeats 4000000 in
theorem spoilS {w0 w : World} {L : List Ent} (T : TypeId) (ad : Option Addr) (n cap : Nat) (xs : List Value) (v : ByteArray) (h : Fr w0 w (⟨T, .slice ad n cap, xs⟩ :: L)) :
    Calls Try.prog 17 #[.slice ad n cap, .string v] w fun e w' => (∃ u, e = .returned u) ∧ Fr w0 w' L := by
  obtain ⟨h1, h2, h3, h4, ys, hy, hf⟩ := h.full
  have HF := Lib.hid hf
  have HY := Lib.hid hy
  unfold maxLen at h2
  have b1 : (n : Int) ≤ (cap : Int) := by omega
  clear h hf hy
  rcases Nat.eq_zero_or_pos cap with h0 | h0
  · subst h0
    obtain rfl := h3 rfl
    have HS := Lib.hid HF.out.tail
    clear HF h3 h4 b1 h1
    cases ad
    all_goals
      go_enter Try.func17, Try.ntmps17
      go_wp2_with fail
      go_loopw [11] (fun q wr => q = .int .i64 0 ∧ Hid (Fr w0 wr L)) (fun _ _ => 0)
      case atStart => exact ⟨rfl, HS⟩
      case round =>
        obtain ⟨rfl, HR⟩ := hrel
        go_wp2_with fail
        go_end0
        exact ⟨⟨_, rfl⟩, HR.out⟩
  · obtain ⟨g, rfl⟩ := h4 h0
    clear h3 h4
    go_enter Try.func17, Try.ntmps17
    go_wp2_with fail
    go_loopw [11] (fun q wr => ∃ (k : Nat) (zs : List Value), k ≤ cap ∧ q = .int .i64 k ∧ zs.length = cap ∧ Hid (Fr w0 wr (⟨T, .slice (some ⟨g, 0, none⟩) cap cap, zs⟩ :: L))) (fun q _ => cap - (intOf q).toNat)
    case atStart => exact ⟨0, ys, by omega, rfl, HY.out, HF⟩
    case round =>
      obtain ⟨k, zs, hk, rfl, hz, HR⟩ := hrel
      by_cases hlt : k < cap
      · obtain ⟨g', e, -, -, hc, hfz⟩ := HR.out.open (by rw [hz]; omega)
        cases e
        have c0 := hc k (by rw [hz]; exact hlt)
        obtain ⟨u, hu⟩ : ∃ u, zs[k]? = some u := ⟨_, List.getElem?_eq_getElem (by rw [hz]; exact hlt)⟩
        rw [hu] at c0
        have z0 := hfz k
        have HR2 := Lib.hid (HR.out.set k (.string v))
        have d1 : (0 : Int) ≤ (k : Int) := by omega
        have d2 : (k : Int) < (cap : Int) := by omega
        clear hc hfz hu
        go_wp2_with fail
        exact ⟨⟨k + 1, zs.set k (.string v), by omega, by simp, by rw [List.length_set]; exact hz, HR2⟩, by simp only [intOf]; omega⟩
      · obtain rfl : k = cap := by omega
        go_wp2_with fail
        go_end0
        exact ⟨⟨_, rfl⟩, HR.out.tail⟩
def IdxI (l : List Int) (x : Int) (w : World) (e : Ending) (w' : World) : Prop := ∃ q : Int, e = .returned (.int .i64 q) ∧ ((0 ≤ q ∧ x ∈ l) ∨ (q < 0 ∧ x ∉ l)) ∧ Fr w w' []
set_option maxRecDepth 100000 in
set_option maxHeartbeats 4000000 in
theorem slIdxI (l : List Int) (n : Nat) (a : Option Addr) (cap : Nat) (x : Int) (w : World) (h : Sa w a (ints l)) (hn : l.length = n) (hm : n ≤ maxLen) :
    Calls Try.prog 71 #[.slice a n cap, .int .i64 x] w (IdxI l x w) := by
  have HN := Lib.hid hn; have HS := Lib.hid h
  unfold maxLen at hm
  clear hn h
  go_enter Try.func71, Try.ntmps71
  go_wp2_with fail
  go_loopw [8] (fun q wr => ∃ k : Nat, k ≤ n ∧ q = .int .i64 k ∧ Hid (∀ i, i < k → nth l i ≠ x) ∧ Hid (Fr w wr [])) (fun q _ => n - (intOf q).toNat)
  case atStart => exact ⟨0, by omega, rfl, Lib.hid (fun i hi => by omega), Lib.hid (Fr.start w)⟩
  case round =>
    obtain ⟨k, hk, rfl, HK, HF⟩ := hrel
    by_cases hlt : k < n
    · obtain ⟨b, off, rfl, -, x1⟩ := (HF.out.old HS.out).int k (by rw [HN.out]; exact hlt)
      obtain ⟨y, hy⟩ : ∃ y, nth l k = y := ⟨_, rfl⟩
      rw [hy] at x1
      have d1 : (0 : Int) ≤ (k : Int) := by omega
      have d2 : (k : Int) < (n : Int) := by omega
      by_cases he : x = y
      · have HE := Lib.hid (show x ∈ l by rw [he, ← hy]; exact nth_mem _ _ (by rw [HN.out]; exact hlt))
        have g : (x == y) = true := by rw [he]; exact beq_self_eq_true _
        clear hy he
        go_wp2_with fail
        go_ret
        exact ⟨(k : Int), rfl, .inl ⟨d1, HE.out⟩, HF.out⟩
      · have HY := Lib.hid (show nth l k ≠ x from fun e => he (by rw [← e, hy]))
        have g : (x == y) = false := beq_eq_false_iff_ne.2 he
        clear hy he
        go_wp2_with fail
        refine ⟨⟨k + 1, by omega, by simp, Lib.hid (fun i hi => ?_), HF⟩, by simp only [intOf]; omega⟩
        by_cases e : i = k
        · rw [e]; exact HY.out
        · exact HK.out i (by omega)
    · obtain rfl : k = n := by omega
      go_wp2_with fail
      go_ret
      refine ⟨-1, rfl, .inr ⟨by omega, fun hx => ?_⟩, HF.out⟩
      obtain ⟨i, hi, e⟩ := List.getElem_of_mem hx
      exact HK.out i (by rw [← HN.out]; exact hi) (by rw [← e]; simp [nth, hi])
theorem slCoI (l : List Int) (n : Nat) (a : Option Addr) (cap : Nat) (x : Int) (w : World) (h : Sa w a (ints l)) (hn : l.length = n) (hm : n ≤ maxLen) :
    Calls Try.prog 13 #[.slice a n cap, .int .i64 x] w fun e w' => ∃ bb : Bool, e = .returned (.bool bb) ∧ (bb = true ↔ x ∈ l) ∧ Fr w w' [] := by
  have HC := Lib.hid (slIdxI l n a cap x w h hn hm)
  clear h hn hm
  go_enter Try.func13, Try.ntmps13
  go_wp2_with fail
  refine HC.out.mono ?_; rintro e w2 ⟨q, rfl, hq, hf⟩
  have HF := Lib.hid hf
  rcases hq with ⟨h0, hm⟩ | ⟨h0, hm⟩
  · have g : decide (0 ≤ q) = true := decide_eq_true h0
    have HM := Lib.hid hm
    clear hf hm
    go_wp2_with fail
    go_ret
    exact ⟨true, rfl, ⟨fun _ => HM.out, fun _ => rfl⟩, HF.out⟩
  · have g : decide (0 ≤ q) = false := decide_eq_false (by omega)
    have HM := Lib.hid hm
    clear hf hm
    go_wp2_with fail
    go_ret
    exact ⟨false, rfl, ⟨fun h => absurd h (by decide), fun h => absurd h HM.out⟩, HF.out⟩
end Go.Proofs.Ytooghdnlaonkaaa
/- castkeep.spoil over the call's own slices of uint16. -/
namespace Go.Proofs.Ytooghdnlaonkaaa
open Go.RowKit

set_option maxRecDepth 100000 in
set_option maxHeartbeats 4000000 in
theorem spoilU {w0 w : World} {L : List Ent} (T : TypeId) (ad : Option Addr) (n cap : Nat) (xs : List Value) (v : Int) (h : Fr w0 w (⟨T, .slice ad n cap, xs⟩ :: L)) :
    Calls Try.prog 31 #[.slice ad n cap, .int .u16 v] w fun e w' => (∃ u, e = .returned u) ∧ Fr w0 w' L := by
  obtain ⟨h1, h2, h3, h4, ys, hy, hf⟩ := h.full
  have HF := Lib.hid hf
  have HY := Lib.hid hy
  unfold maxLen at h2
  have b1 : (n : Int) ≤ (cap : Int) := by omega
  clear h hf hy
  rcases Nat.eq_zero_or_pos cap with h0 | h0
  · subst h0
    obtain rfl := h3 rfl
    have HS := Lib.hid HF.out.tail
    clear HF h3 h4 b1 h1
    cases ad
    all_goals
      go_enter Try.func31, Try.ntmps31
      go_wp2_with fail
      go_loopw [11] (fun q wr => q = .int .i64 0 ∧ Hid (Fr w0 wr L)) (fun _ _ => 0)
      case atStart => exact ⟨rfl, HS⟩
      case round =>
        obtain ⟨rfl, HR⟩ := hrel
        go_wp2_with fail
        go_end0
        exact ⟨⟨_, rfl⟩, HR.out⟩
  · obtain ⟨g, rfl⟩ := h4 h0
    clear h3 h4
    go_enter Try.func31, Try.ntmps31
    go_wp2_with fail
    go_loopw [11] (fun q wr => ∃ (k : Nat) (zs : List Value), k ≤ cap ∧ q = .int .i64 k ∧ zs.length = cap ∧ Hid (Fr w0 wr (⟨T, .slice (some ⟨g, 0, none⟩) cap cap, zs⟩ :: L))) (fun q _ => cap - (intOf q).toNat)
    case atStart => exact ⟨0, ys, by omega, rfl, HY.out, HF⟩
    case round =>
      obtain ⟨k, zs, hk, rfl, hz, HR⟩ := hrel
      by_cases hlt : k < cap
      · obtain ⟨g', e, -, -, hc, hfz⟩ := HR.out.open (by rw [hz]; omega)
        cases e
        have c0 := hc k (by rw [hz]; exact hlt)
        obtain ⟨u, hu⟩ : ∃ u, zs[k]? = some u := ⟨_, List.getElem?_eq_getElem (by rw [hz]; exact hlt)⟩
        rw [hu] at c0
        have z0 := hfz k
        have HR2 := Lib.hid (HR.out.set k (.int .u16 v))
        have d1 : (0 : Int) ≤ (k : Int) := by omega
        have d2 : (k : Int) < (cap : Int) := by omega
        clear hc hfz hu
        go_wp2_with fail
        exact ⟨⟨k + 1, zs.set k (.int .u16 v), by omega, by simp, by rw [List.length_set]; exact hz, HR2⟩, by simp only [intOf]; omega⟩
      · obtain rfl : k = cap := by omega
        go_wp2_with fail
        go_end0
        exact ⟨⟨_, rfl⟩, HR.out.tail⟩
end Go.Proofs.Ytooghdnlaonkaaa
/- slices.Compare over two slices of one length; slices.IsSorted over a sorted one. -/
namespace Go.Proofs.Ytooghdnlaonkaaa
open Go.RowKit

theorem isNaN_int (x : Int) (w : World) : Calls Try.prog 158 #[.int .i64 x] w fun e w' => e = .returned (.bool false) ∧ w = w' := by
  go_enter Try.func158, Try.ntmps158
  have hx : (x == x) = true := beq_self_eq_true _
  go_wp2_with fail
  go_ret
  exact ⟨by simp, rfl⟩

theorem cmp_int (x y : Int) (w : World) : Calls Try.prog 127 #[.int .i64 x, .int .i64 y] w fun e w' => e = .returned (.int .i64 (cmp2 x y)) ∧ w = w' := by
  rcases Int.lt_trichotomy x y with h | h | h
  · have HC := Lib.hid (show cmp2 x y = -1 from by unfold cmp2; rw [if_pos h])
    go_enter Try.func127, Try.ntmps127
    go_wp2_with (go_at_call 158; refine (isNaN_int _ _).mono ?_; rintro e w' ⟨rfl, rfl⟩)
    go_ret
    exact ⟨by rw [HC.out]; rfl, rfl⟩
  · have HC := Lib.hid (show cmp2 x y = 0 from by unfold cmp2; rw [if_neg (by omega), if_neg (by omega)])
    go_enter Try.func127, Try.ntmps127
    go_wp2_with (go_at_call 158; refine (isNaN_int _ _).mono ?_; rintro e w' ⟨rfl, rfl⟩)
    go_ret
    exact ⟨by rw [HC.out]; rfl, rfl⟩
  · have HC := Lib.hid (show cmp2 x y = 1 from by unfold cmp2; rw [if_neg (by omega), if_pos h])
    go_enter Try.func127, Try.ntmps127
    go_wp2_with (go_at_call 158; refine (isNaN_int _ _).mono ?_; rintro e w' ⟨rfl, rfl⟩)
    go_ret
    exact ⟨by rw [HC.out]; rfl, rfl⟩

set_option maxHeartbeats 1000000 in
theorem slCompare (l m : List Int) (v u : Value) (w : World) (h : Sl w v l) (h' : Sl w u m) (hlm : l.length = m.length) (hl : l.length ≤ 1000000) :
    Calls Try.prog 85 #[v, u] w fun e w' => e = .returned (.int .i64 (lexC l m)) ∧ w = w' := by
  rcases h with ⟨rfl, a, cap, rfl⟩ | ⟨h0, b, off, cap, rfl, hb, hc⟩
  · rcases h' with ⟨rfl, a', cap', rfl⟩ | ⟨h0', _⟩
    · go_enter Try.func85, Try.ntmps85
      go_wp2_with fail
      go_loop [11] (fun i => i = .int .i64 0) (fun _ => 0)
      case atStart => rfl
      case round =>
        subst hrel
        go_wp2_with fail
        go_ret
        exact ⟨rfl, rfl⟩
    · simp at hlm; omega
  · rcases h' with ⟨h1, _⟩ | ⟨h0', b', off', cap', rfl, hb', hc'⟩
    · rw [h1, List.length_nil] at hlm; omega
    obtain ⟨f, hf⟩ : ∃ f : Nat → Int, ∀ i, f i = nth l i := ⟨fun i => nth l i, fun _ => rfl⟩
    obtain ⟨g, hg⟩ : ∃ g : Nat → Int, ∀ i, g i = nth m i := ⟨fun i => nth m i, fun _ => rfl⟩
    have HC : Hid (∀ i, i < l.length → w.cell? ⟨b, off + i, none⟩ = some (.int .i64 (f i))) := Lib.hid (fun i hi => by rw [hc i hi, hf]; rfl)
    have HC' : Hid (∀ i, i < l.length → w.cell? ⟨b', off' + i, none⟩ = some (.int .i64 (g i))) := Lib.hid (fun i hi => by rw [hc' i (by omega), hg]; rfl)
    have HF := Lib.hid hf; have HG := Lib.hid hg
    clear hc hf hb hc' hb' hg
    rw [← hlm] at h0' ⊢
    generalize hn : l.length = n at *
    have HN := Lib.hid hn; have HM := Lib.hid hlm; clear hn hlm
    go_enter Try.func85, Try.ntmps85
    go_wp2_with fail
    go_loop [11] (fun i => ∃ k : Nat, k ≤ n ∧ Hid (lexC l m = lexC (l.drop k) (m.drop k)) ∧ i = .int .i64 k) (fun i => n - (intOf i).toNat)
    case atStart => exact ⟨0, by omega, Lib.hid (by simp), rfl⟩
    case round =>
      obtain ⟨k, hk, HE, rfl⟩ := hrel
      by_cases hlt : k < n
      · have hcell := HC.out k hlt
        have hcell' := HC'.out k hlt
        have hd := lexC_drop l m k (by rw [HN.out]; exact hlt) (by rw [← HM.out]; exact hlt)
        rw [← HF.out, ← HG.out] at hd
        by_cases hz : cmp2 (f k) (g k) = 0
        · rw [if_pos hz] at hd
          have HD := Lib.hid hd; clear hd
          have hz' : (cmp2 (f k) (g k) == 0) = true := by rw [beq_iff_eq]; exact hz
          clear hz
          go_wp2_with (go_at_call 127; refine (cmp_int _ _ _).mono ?_; rintro e w' ⟨rfl, rfl⟩)
          go_round
          case rel => exact ⟨k + 1, by omega, Lib.hid (by rw [HE.out, HD.out]), by go_num⟩
          case measure => simp [intOf]; omega
        · rw [if_neg hz] at hd
          have HD := Lib.hid hd; clear hd
          have hz' : (cmp2 (f k) (g k) == 0) = false := by rw [beq_eq_false_iff_ne]; exact hz
          clear hz
          go_wp2_with (go_at_call 127; refine (cmp_int _ _ _).mono ?_; rintro e w' ⟨rfl, rfl⟩)
          go_ret
          exact ⟨by rw [HE.out, HD.out]; rfl, rfl⟩
      · go_wp2_with fail
        go_ret
        have e1 : l.drop k = [] := List.drop_of_length_le (by rw [HN.out]; omega)
        exact ⟨by rw [HE.out, e1]; rfl, rfl⟩
end Go.Proofs.Ytooghdnlaonkaaa
