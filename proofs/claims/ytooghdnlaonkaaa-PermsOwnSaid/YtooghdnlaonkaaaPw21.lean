/- Several of my texts in one: BlkOf. -/
import Derived.Test.YtooghdnlaonkaaaPw20
import Derived.Test.YtooghdnlaonkaaaPw02
/- Contract of blocks.Of. -/
namespace Go.Proofs.Ytooghdnlaonkaaa
open Go.RowKit

def ofStep (s : List Int × List Int) (x : Int) : List Int × List Int := (if x ∈ s.1 then s.1 else s.1 ++ [x], s.2 ++ [((s.1.idxOf x : Nat) : Int)])
def ofRun (l : List Int) : List Int × List Int := l.foldl ofStep ([], [])
theorem ofRun_snoc (l : List Int) (x : Int) : ofRun (l ++ [x]) = ofStep (ofRun l) x := by simp [ofRun]
theorem take_snocI (l : List Int) (k : Nat) (h : k < l.length) : l.take (k + 1) = l.take k ++ [l.getD k 0] := by
  rw [List.take_succ_eq_append_getElem h]; simp [h]
theorem ofRun_len (l : List Int) : (ofRun l).1.length ≤ l.length ∧ (ofRun l).2.length = l.length := by
  have : ∀ (l : List Int) (s : List Int × List Int), (l.foldl ofStep s).1.length ≤ s.1.length + l.length ∧ (l.foldl ofStep s).2.length = s.2.length + l.length := by
    intro l
    induction l with
    | nil => intro s; simp
    | cons a l ih =>
      intro s
      have h := ih (ofStep s a)
      rw [List.foldl_cons]
      unfold ofStep at h ⊢
      simp only [List.length_cons, List.length_append, List.length_nil] at h ⊢
      refine ⟨?_, by omega⟩
      have h1 := h.1
      by_cases hm : a ∈ s.1
      · rw [if_pos hm] at h1; rw [if_pos hm]; omega
      · rw [if_neg hm] at h1; rw [if_neg hm]; simp at h1; omega
  simpa [ofRun] using this l ([], [])
theorem idx_facts {l : List Int} {x r : Int} (h : IdxIs l x r) : (r = -1 ∧ x ∉ l ∧ l.idxOf x = l.length) ∨ (r = ((l.idxOf x : Nat) : Int) ∧ x ∈ l) := by
  rcases h with ⟨h1, h2⟩ | ⟨i, h1, h2, h3, h4⟩
  · have hn : x ∉ l := by
      intro hm
      obtain ⟨i, hi, e⟩ := List.getElem_of_mem hm
      exact h2 i hi (by simp [hi, e])
    exact .inl ⟨h1, hn, List.idxOf_eq_length hn⟩
  · right
    have hm : x ∈ l := by rw [← h3]; simp [h2]
    refine ⟨?_, hm⟩
    rw [h1]
    have hlt : l.idxOf x < l.length := List.idxOf_lt_length_of_mem hm
    have he : l.getD (l.idxOf x) 0 = x := by simp [hlt]
    rcases Nat.lt_trichotomy i (l.idxOf x) with h | h | h
    · have := List.not_of_lt_findIdx (p := (· == x)) (xs := l) (i := i) h
      simp at this
      simp [h2] at h3
      exact absurd h3 this
    · rw [h]
    · exact absurd he (h4 _ h)

theorem Own.isSlice {w : World} {base : Nat} {v : Value} {l : List Int} (h : Own w base v l) : ∃ ad cp, v = .slice ad l.length cp := by
  rcases h.shape with ⟨rfl, rfl⟩ | ⟨g, cp, rfl, _⟩
  · exact ⟨_, _, rfl⟩
  · exact ⟨_, _, rfl⟩

def BlkOfSaid (l : List Int) (w : World) (e : Ending) (w' : World) : Prop :=
  ∃ v : Value, e = .returned (.tuple #[v, .int .i64 0]) ∧ Own w' w.heap.size v (ofRun l).2 ∧ Below w.heap.size w w'

set_option maxHeartbeats 1000000 in
theorem blkOf_any (l : List Int) (v : Value) (w : World) (h : Sl w v l) (hl : l.length ≤ 10) :
    Calls Try.prog 59 #[v] w (BlkOfSaid l w) := by
  rcases h with ⟨rfl, a, cap, rfl⟩ | ⟨h0, b, off, cap, rfl, hb, hc⟩
  · go_enter Try.func59, Try.ntmps59
    go_wp2_with fail
    go_loopw [4, 5, 14] (fun s o i wr => o = .slice none 0 0 ∧ i = .int .i64 0 ∧ wr = w) (fun _ _ _ _ => 0)
    case atStart => exact ⟨rfl, rfl, rfl⟩
    case round =>
      obtain ⟨rfl, rfl, rfl⟩ := hrel
      go_wp2_with fail
      go_ret2
      exact ⟨_, rfl, Own.nil _ _, Below.refl _ _⟩
  · obtain ⟨f, hf⟩ : ∃ f : Nat → Int, ∀ i, f i = l.getD i 0 := ⟨fun i => l.getD i 0, fun _ => rfl⟩
    have HC : Hid (∀ i, i < l.length → w.cell? ⟨b, off + i, none⟩ = some (.int .i64 (f i))) := Lib.hid (fun i hi => by rw [hc i hi, hf])
    have HF := Lib.hid hf
    clear hc hf
    generalize hn : l.length = n at *
    have HN := Lib.hid hn; clear hn
    go_enter Try.func59, Try.ntmps59
    go_wp2_with fail
    go_loopw [4, 5, 14] (fun s o i wr => ∃ k : Nat, k ≤ n ∧ Own wr w.heap.size s (ofRun (l.take k)).1 ∧ Own wr w.heap.size o (ofRun (l.take k)).2 ∧ Apart s o ∧ Apart o s ∧ i = .int .i64 k ∧ Below w.heap.size w wr) (fun _ _ i _ => n - (intOf i).toNat)
    case atStart => exact ⟨0, by omega, Own.nil _ _, Own.nil _ _, .inl rfl, .inl rfl, rfl, Below.refl _ _⟩
    case round =>
      obtain ⟨k, hk, hs, ho, hap, hap', rfl, hbel⟩ := hrel
      have AP := Lib.hid hap; have AP' := Lib.hid hap'; clear hap hap'
      have HS := Lib.hid hs; have HO := Lib.hid ho
      have hsl := Lib.hid hs.sl
      have HB := Lib.hid hbel; have hsz := hbel.size
      clear hs ho
      by_cases hlt : k < n
      · have hcell : wr.cell? ⟨b, off + k, none⟩ = some (.int .i64 (f k)) := by
          rw [hbel.cell (p := ⟨b, off + k, none⟩) hb]; exact HC.out k hlt
        clear hbel
        have L1 := Lib.hid (ofRun_len (l.take k))
        have hlk : (l.take k).length ≤ 10 := by rw [List.length_take]; omega
        have hsnoc := Lib.hid (show ofRun (l.take (k + 1)) = ofStep (ofRun (l.take k)) (f k) from by rw [take_snocI l k (by rw [HN.out]; exact hlt), ofRun_snoc, HF.out])
        generalize hS : (ofRun (l.take k)).1 = S at *
        generalize hO : (ofRun (l.take k)).2 = O at *
        have KS := Lib.hid hS; have KO := Lib.hid hO; clear hS hO
        have lS : S.length ≤ 10 := by have := L1.out.1; omega
        have lO : O.length ≤ 10 := by have := L1.out.2; omega
        clear hlk
        go_wp2_with fail
        refine (indexI_any _ _ _ _ hsl.out (by omega)).mono ?_; rintro e w' ⟨r, rfl, hr, rfl⟩
        rcases idx_facts hr with ⟨rfl, hnm, hix⟩ | ⟨hr2, hm⟩
        · have HNM := Lib.hid hnm; have HIX := Lib.hid hix; clear hr hnm hix
          obtain ⟨ad, cp, hu⟩ := HS.out.isSlice
          subst hu
          go_wp2_with (first
            | (at_builtin; refine wpList_append1_at rfl _ _ rfl w.heap.size (.slice ad S.length cp) S (f k) rfl HS.out rfl (by omega) hsz ?_; intro v' w2 hs2 hb2 hlt2 hkp2; obtain ⟨ho2, ap2, ap2'⟩ := hkp2 _ _ _ HO.out AP'.out; have hsz2 : w.heap.size ≤ w2.heap.size := (by omega))
            | (at_builtin; refine wpList_append1_at rfl _ _ rfl w.heap.size u5 O S.length rfl ho2 rfl (by omega) hsz2 ?_; intro v3 w3 ho3 hb3 hlt3 hkp3))
          obtain ⟨hs3, ap3, ap3'⟩ := hkp3 _ _ _ hs2 ap2'
          have e1 : ofRun (l.take (k + 1)) = (S ++ [f k], O ++ [((S.length : Nat) : Int)]) := by rw [hsnoc.out]; simp [ofStep, KS.out, KO.out, HNM.out, HIX.out]
          exact ⟨⟨k + 1, by omega, by rw [e1]; exact hs3, by rw [e1]; exact ho3, ap3, ap3', by simp, (HB.out.trans hb2).trans hb3⟩, by simp [intOf]; omega⟩
        · have hr0 : 0 ≤ r := by omega
          have hrb : ¬ r < 0 := by omega
          have HR2 := Lib.hid hr2; have HM := Lib.hid hm; clear hr hr2 hm
          go_wp2_with (at_builtin; go_must (refine wpList_append1_at rfl _ _ rfl w.heap.size u5 O r rfl HO.out rfl ?_ hsz ?_); rotate_left; intro v' w2 ho2 hb2 hlt2 hkp2)
          · obtain ⟨h1, h2, h3⟩ := hkp2 _ _ _ HS.out AP.out
            have e1 : ofRun (l.take (k + 1)) = (S, O ++ [r]) := by rw [hsnoc.out]; simp [ofStep, KS.out, KO.out, HM.out, HR2.out]
            refine ⟨⟨k + 1, by omega, by rw [e1]; exact h1, by rw [e1]; exact ho2, h2, h3, by simp, HB.out.trans hb2⟩, by simp [intOf]; omega⟩
          · omega
      · go_wp2_with fail
        go_ret2
        have hkn : k = n := by omega
        have ht : l.take k = l := by rw [hkn, ← HN.out, List.take_length]
        have ho := HO.out
        rw [ht] at ho
        exact ⟨_, rfl, ho, hbel⟩
end Go.Proofs.Ytooghdnlaonkaaa
