/- Several of my texts in one: Spo. -/
import Derived.Test.YtooghdnlaonkaaaPw02
import Derived.Test.YtooghdnlaonkaaaPw15
import Derived.Deep.QuietTactic
/- castkeep.spoil over the call's own slices; slices.Contains over ints. -/
namespace Go.Proofs.Ytooghdnlaonkaaa
open Go.RowKit

/-- an own slice as long as its capacity -/
theorem Fr.full {w0 w : World} {L : List Ent} {T : TypeId} {ad : Option Addr} {n cap : Nat} {xs : List Value} (h : Fr w0 w (⟨T, .slice ad n cap, xs⟩ :: L)) : n ≤ cap ∧ cap ≤ maxLen ∧ (cap = 0 → n = 0) ∧ (0 < cap → ∃ g, ad = some ⟨g, 0, .none⟩) ∧ ∃ ys, ys.length = cap ∧ Fr w0 w (⟨T, .slice ad cap cap, ys⟩ :: L) := by
  have hO := h.os.own _ List.mem_cons_self
  have hf := List.pairwise_cons.1 h.os.far
  obtain ⟨h1, ⟨rfl, rfl, rfl⟩ | ⟨g, cur, rfl, h2, h3, h4, h5, h6, h7⟩⟩ := hO.elim
  · exact ⟨by simp [h1], Nat.zero_le _, fun _ => h1, fun h => by omega, [], rfl, by rw [show n = 0 from h1] at h; exact h⟩
  · refine ⟨h4, h5, fun e => by omega, fun _ => ⟨g, rfl⟩, cur.toList, by simp [h6], h.bel, fun e he => ?_, List.pairwise_cons.2 ⟨fun b hb => hf.1 b hb, hf.2⟩⟩
    rcases List.mem_cons.1 he with rfl | he
    · refine ⟨by simp, .inr ⟨g, cap, cur, by simp [h6], h2, h3, by simp [h6], h5, by simp [h6], ?_⟩⟩
      rw [Nat.mul_one]
      exact List.take_of_length_le (Nat.le_refl _)
    · exact h.os.own e (List.mem_cons_of_mem _ he)
set_option maxRecDepth 100000 in
set_option maxHeartbeats 4000000 in
theorem spoilI {w0 w : World} {L : List Ent} (T : TypeId) (ad : Option Addr) (n cap : Nat) (xs : List Value) (v : Int) (h : Fr w0 w (⟨T, .slice ad n cap, xs⟩ :: L)) :
    Calls Try.prog 12 #[.slice ad n cap, .int .i64 v] w fun e w' => (∃ u, e = .returned u) ∧ Fr w0 w' L := by
  obtain ⟨h1, h2, h3, h4, ys, hy, hf⟩ := h.full
  have HF := Lib.hid hf
  have HY := Lib.hid hy
  unfold maxLen at h2
  have b1 : (n : Int) ≤ (cap : Int) := by omega
  clear h hf hy
  rcases Nat.eq_zero_or_pos cap with h0 | h0
  · subst h0
    obtain rfl := h3 rfl
    have HS := Lib.hid HF.out.tail
    clear HF h3 h4 b1 h1
    cases ad
    all_goals
      go_enter Try.func12, Try.ntmps12
      go_wp2_with fail
      go_loopw [11] (fun q wr => q = .int .i64 0 ∧ Hid (Fr w0 wr L)) (fun _ _ => 0)
      case atStart => exact ⟨rfl, HS⟩
      case round =>
        obtain ⟨rfl, HR⟩ := hrel
        go_wp2_with fail
        go_end0
        exact ⟨⟨_, rfl⟩, HR.out⟩
  · obtain ⟨g, rfl⟩ := h4 h0
    clear h3 h4
    go_enter Try.func12, Try.ntmps12
    go_wp2_with fail
    go_loopw [11] (fun q wr => ∃ (k : Nat) (zs : List Value), k ≤ cap ∧ q = .int .i64 k ∧ zs.length = cap ∧ Hid (Fr w0 wr (⟨T, .slice (some ⟨g, 0, none⟩) cap cap, zs⟩ :: L))) (fun q _ => cap - (intOf q).toNat)
    case atStart => exact ⟨0, ys, by omega, rfl, HY.out, HF⟩
    case round =>
      obtain ⟨k, zs, hk, rfl, hz, HR⟩ := hrel
      by_cases hlt : k < cap
      · obtain ⟨g', e, -, -, hc, hfz⟩ := HR.out.open (by rw [hz]; omega)
        cases e
        have c0 := hc k (by rw [hz]; exact hlt)
        obtain ⟨u, hu⟩ : ∃ u, zs[k]? = some u := ⟨_, List.getElem?_eq_getElem (by rw [hz]; exact hlt)⟩
        rw [hu] at c0
        have z0 := hfz k
        have HR2 := Lib.hid (HR.out.set k (.int .i64 v))
        have d1 : (0 : Int) ≤ (k : Int) := by omega
        have d2 : (k : Int) < (cap : Int) := by omega
        clear hc hfz hu
        go_wp2_with fail
        exact ⟨⟨k + 1, zs.set k (.int .i64 v), by omega, by simp, by rw [List.length_set]; exact hz, HR2⟩, by simp only [intOf]; omega⟩
      · obtain rfl : k = cap := by omega
        go_wp2_with fail
        go_end0
        exact ⟨⟨_, rfl⟩, HR.out.tail⟩
set_option maxRecDepth 100000 in
set_option maxHeartbeats 4000000 in
theorem spoilS {w0 w : World} {L : List Ent} (T : TypeId) (ad : Option Addr) (n cap : Nat) (xs : List Value) (v : ByteArray) (h : Fr w0 w (⟨T, .slice ad n cap, xs⟩ :: L)) :
    Calls Try.prog 17 #[.slice ad n cap, .string v] w fun e w' => (∃ u, e = .returned u) ∧ Fr w0 w' L := by
  obtain ⟨h1, h2, h3, h4, ys, hy, hf⟩ := h.full
  have HF := Lib.hid hf
  have HY := Lib.hid hy
  unfold maxLen at h2
  have b1 : (n : Int) ≤ (cap : Int) := by omega
  clear h hf hy
  rcases Nat.eq_zero_or_pos cap with h0 | h0
  · subst h0
    obtain rfl := h3 rfl
    have HS := Lib.hid HF.out.tail
    clear HF h3 h4 b1 h1
    cases ad
    all_goals
      go_enter Try.func17, Try.ntmps17
      go_wp2_with fail
      go_loopw [11] (fun q wr => q = .int .i64 0 ∧ Hid (Fr w0 wr L)) (fun _ _ => 0)
      case atStart => exact ⟨rfl, HS⟩
      case round =>
        obtain ⟨rfl, HR⟩ := hrel
        go_wp2_with fail
        go_end0
        exact ⟨⟨_, rfl⟩, HR.out⟩
  · obtain ⟨g, rfl⟩ := h4 h0
    clear h3 h4
    go_enter Try.func17, Try.ntmps17
    go_wp2_with fail
    go_loopw [11] (fun q wr => ∃ (k : Nat) (zs : List Value), k ≤ cap ∧ q = .int .i64 k ∧ zs.length = cap ∧ Hid (Fr w0 wr (⟨T, .slice (some ⟨g, 0, none⟩) cap cap, zs⟩ :: L))) (fun q _ => cap - (intOf q).toNat)
    case atStart => exact ⟨0, ys, by omega, rfl, HY.out, HF⟩
    case round =>
      obtain ⟨k, zs, hk, rfl, hz, HR⟩ := hrel
      by_cases hlt : k < cap
      · obtain ⟨g', e, -, -, hc, hfz⟩ := HR.out.open (by rw [hz]; omega)
        cases e
        have c0 := hc k (by rw [hz]; exact hlt)
        obtain ⟨u, hu⟩ : ∃ u, zs[k]? = some u := ⟨_, List.getElem?_eq_getElem (by rw [hz]; exact hlt)⟩
        rw [hu] at c0
        have z0 := hfz k
        have HR2 := Lib.hid (HR.out.set k (.string v))
        have d1 : (0 : Int) ≤ (k : Int) := by omega
        have d2 : (k : Int) < (cap : Int) := by omega
        clear hc hfz hu
        go_wp2_with fail
        exact ⟨⟨k + 1, zs.set k (.string v), by omega, by simp, by rw [List.length_set]; exact hz, HR2⟩, by simp only [intOf]; omega⟩
      · obtain rfl : k = cap := by omega
        go_wp2_with fail
        go_end0
        exact ⟨⟨_, rfl⟩, HR.out.tail⟩
def IdxI (l : List Int) (x : Int) (w : World) (e : Ending) (w' : World) : Prop := ∃ q : Int, e = .returned (.int .i64 q) ∧ ((0 ≤ q ∧ x ∈ l) ∨ (q < 0 ∧ x ∉ l)) ∧ Fr w w' []
set_option maxRecDepth 100000 in
set_option maxHeartbeats 4000000 in
theorem slIdxI (l : List Int) (n : Nat) (a : Option Addr) (cap : Nat) (x : Int) (w : World) (h : Sa w a (ints l)) (hn : l.length = n) (hm : n ≤ maxLen) :
    Calls Try.prog 71 #[.slice a n cap, .int .i64 x] w (IdxI l x w) := by
  have HN := Lib.hid hn; have HS := Lib.hid h
  unfold maxLen at hm
  clear hn h
  go_enter Try.func71, Try.ntmps71
  go_wp2_with fail
  go_loopw [8] (fun q wr => ∃ k : Nat, k ≤ n ∧ q = .int .i64 k ∧ Hid (∀ i, i < k → nth l i ≠ x) ∧ Hid (Fr w wr [])) (fun q _ => n - (intOf q).toNat)
  case atStart => exact ⟨0, by omega, rfl, Lib.hid (fun i hi => by omega), Lib.hid (Fr.start w)⟩
  case round =>
    obtain ⟨k, hk, rfl, HK, HF⟩ := hrel
    by_cases hlt : k < n
    · obtain ⟨b, off, rfl, -, x1⟩ := (HF.out.old HS.out).int k (by rw [HN.out]; exact hlt)
      obtain ⟨y, hy⟩ : ∃ y, nth l k = y := ⟨_, rfl⟩
      rw [hy] at x1
      have d1 : (0 : Int) ≤ (k : Int) := by omega
      have d2 : (k : Int) < (n : Int) := by omega
      by_cases he : x = y
      · have HE := Lib.hid (show x ∈ l by rw [he, ← hy]; exact nth_mem _ _ (by rw [HN.out]; exact hlt))
        have g : (x == y) = true := by rw [he]; exact beq_self_eq_true _
        clear hy he
        go_wp2_with fail
        go_ret
        exact ⟨(k : Int), rfl, .inl ⟨d1, HE.out⟩, HF.out⟩
      · have HY := Lib.hid (show nth l k ≠ x from fun e => he (by rw [← e, hy]))
        have g : (x == y) = false := beq_eq_false_iff_ne.2 he
        clear hy he
        go_wp2_with fail
        refine ⟨⟨k + 1, by omega, by simp, Lib.hid (fun i hi => ?_), HF⟩, by simp only [intOf]; omega⟩
        by_cases e : i = k
        · rw [e]; exact HY.out
        · exact HK.out i (by omega)
    · obtain rfl : k = n := by omega
      go_wp2_with fail
      go_ret
      refine ⟨-1, rfl, .inr ⟨by omega, fun hx => ?_⟩, HF.out⟩
      obtain ⟨i, hi, e⟩ := List.getElem_of_mem hx
      exact HK.out i (by rw [← HN.out]; exact hi) (by rw [← e]; simp [nth, hi])
theorem slCoI (l : List Int) (n : Nat) (a : Option Addr) (cap : Nat) (x : Int) (w : World) (h : Sa w a (ints l)) (hn : l.length = n) (hm : n ≤ maxLen) :
    Calls Try.prog 13 #[.slice a n cap, .int .i64 x] w fun e w' => ∃ bb : Bool, e = .returned (.bool bb) ∧ (bb = true ↔ x ∈ l) ∧ Fr w w' [] := by
  have HC := Lib.hid (slIdxI l n a cap x w h hn hm)
  clear h hn hm
  go_enter Try.func13, Try.ntmps13
  go_wp2_with fail
  refine HC.out.mono ?_; rintro e w2 ⟨q, rfl, hq, hf⟩
  have HF := Lib.hid hf
  rcases hq with ⟨h0, hm⟩ | ⟨h0, hm⟩
  · have g : decide (0 ≤ q) = true := decide_eq_true h0
    have HM := Lib.hid hm
    clear hf hm
    go_wp2_with fail
    go_ret
    exact ⟨true, rfl, ⟨fun _ => HM.out, fun _ => rfl⟩, HF.out⟩
  · have g : decide (0 ≤ q) = false := decide_eq_false (by omega)
    have HM := Lib.hid hm
    clear hf hm
    go_wp2_with fail
    go_ret
    exact ⟨false, rfl, ⟨fun h => absurd h (by decide), fun h => absurd h HM.out⟩, HF.out⟩
end Go.Proofs.Ytooghdnlaonkaaa
