/- Several of my texts in one: BlkChk. -/
import Derived.Test.YtooghdnlaonkaaaPw21
/- blocks.Check where it says OK. -/
namespace Go.Proofs.Ytooghdnlaonkaaa
open Go.RowKit

def mst (l : List Int) : Int := l.foldl (fun a b => if a < b then b else a) (-1)
def GrowsOk (l : List Int) : Prop := ∀ k, k < l.length → 0 ≤ l.getD k 0 ∧ l.getD k 0 ≤ mst (l.take k) + 1 ∧ -1 ≤ mst (l.take k) ∧ mst (l.take k) ≤ 1000
theorem mst_snoc (l : List Int) (x : Int) : mst (l ++ [x]) = if mst l < x then x else mst l := by unfold mst; rw [List.foldl_append]; rfl

set_option maxHeartbeats 1000000 in
theorem blkCheck_ok (l : List Int) (v : Value) (w : World) (h : Sl w v l) (hl : l.length ≤ 10) (hg : GrowsOk l) :
    Calls Try.prog 108 #[v] w fun e w' => e = .returned (.int .i64 0) ∧ w = w' := by
  rcases h with ⟨rfl, a, cap, rfl⟩ | ⟨h0, b, off, cap, rfl, hb, hc⟩
  · go_enter Try.func108, Try.ntmps108
    go_wp2_with fail
    go_loop [3, 11] (fun m i => i = .int .i64 0) (fun _ _ => 0)
    case atStart => rfl
    case round =>
      subst hrel
      go_wp2_with fail
      go_ret
      exact ⟨rfl, rfl⟩
  · obtain ⟨f, hf⟩ : ∃ f : Nat → Int, ∀ i, f i = l.getD i 0 := ⟨fun i => l.getD i 0, fun _ => rfl⟩
    have HC : Hid (∀ i, i < l.length → w.cell? ⟨b, off + i, none⟩ = some (.int .i64 (f i))) := Lib.hid (fun i hi => by rw [hc i hi, hf])
    have HF := Lib.hid hf
    have HG := Lib.hid hg
    clear hc hf hb hg
    generalize hn : l.length = n at *
    have HN := Lib.hid hn; clear hn
    go_enter Try.func108, Try.ntmps108
    go_wp2_with fail
    go_loop [3, 11] (fun m i => ∃ k : Nat, k ≤ n ∧ m = .int .i64 (mst (l.take k)) ∧ i = .int .i64 k) (fun _ i => n - (intOf i).toNat)
    case atStart => exact ⟨0, by omega, rfl, rfl⟩
    case round =>
      obtain ⟨k, hk, rfl, rfl⟩ := hrel
      by_cases hlt : k < n
      · have hcell := HC.out k hlt
        have hq := HG.out k (by rw [HN.out]; exact hlt)
        rw [← HF.out k] at hq
        obtain ⟨q1, q2, q3, q4⟩ := hq
        have hsnoc := Lib.hid (show mst (l.take (k + 1)) = if mst (l.take k) < f k then f k else mst (l.take k) from by rw [take_snocI l k (by rw [HN.out]; exact hlt), mst_snoc, HF.out])
        generalize hM : mst (l.take k) = M at *
        have KM := Lib.hid hM; clear hM
        generalize hx : f k = x at *
        have KX := Lib.hid hx; clear hx
        have d1 : decide (x < 0) = false := decide_eq_false (by omega)
        have d2 : decide (M + 1 < x) = false := decide_eq_false (by omega)
        go_wp2_with fail
        exact ⟨⟨k + 1, by omega, by rw [hsnoc.out], by simp⟩, by simp [intOf]; omega⟩
      · go_wp2_with fail
        go_ret
        exact ⟨rfl, rfl⟩

theorem ofRun_take (l : List Int) : ∀ k, k ≤ l.length → (ofRun (l.take k)).2 = (ofRun l).2.take k := by
  have key : ∀ (m : List Int) (s : List Int × List Int), ∃ r, (m.foldl ofStep s).2 = s.2 ++ r := by
    intro m
    induction m with
    | nil => intro s; exact ⟨[], by simp⟩
    | cons a m ih =>
      intro s
      obtain ⟨r, hr⟩ := ih (ofStep s a)
      exact ⟨[((s.1.idxOf a : Nat) : Int)] ++ r, by rw [List.foldl_cons, hr]; simp [ofStep]⟩
  intro k hk
  obtain ⟨r, hr⟩ := key (l.drop k) (ofRun (l.take k))
  have e : (l.drop k).foldl ofStep (ofRun (l.take k)) = ofRun l := by
    unfold ofRun; rw [← List.foldl_append, List.take_append_drop]
  rw [e] at hr
  have hlen : (ofRun (l.take k)).2.length = k := by rw [(ofRun_len _).2, List.length_take]; omega
  rw [hr, List.take_append_of_le_length (by omega)]
  exact (List.take_of_length_le (by omega)).symm
/-- the highest number given is one below the count of the seen ones -/
theorem mst_ofRun (l : List Int) : mst (ofRun l).2 = ((ofRun l).1.length : Int) - 1 := by
  have : ∀ n (l : List Int), l.length = n → mst (ofRun l).2 = ((ofRun l).1.length : Int) - 1 := by
    intro n
    induction n with
    | zero => intro l h; have := List.eq_nil_of_length_eq_zero h; subst this; rfl
    | succ n ih =>
      intro l h
      have e := take_snocI l n (by omega)
      rw [List.take_of_length_le (by omega)] at e
      have ih' := ih (l.take n) (by rw [List.length_take]; omega)
      rw [e, ofRun_snoc]
      generalize l.getD n 0 = x
      generalize ofRun (l.take n) = s at ih'
      unfold ofStep
      simp only [mst_snoc, ih']
      by_cases hm : x ∈ s.1
      · have := List.idxOf_lt_length_of_mem hm
        rw [if_pos hm, if_neg (by omega)]
      · have := List.idxOf_eq_length hm
        rw [if_neg hm, if_pos (by omega), List.length_append, List.length_singleton]; omega
  exact this _ l rfl
theorem ofRun_grows (l : List Int) (hl : l.length ≤ 10) : GrowsOk (ofRun l).2 := by
  intro k hk
  rw [(ofRun_len l).2] at hk
  have e1 := ofRun_take l k (by omega)
  have e2 := ofRun_take l (k + 1) (by omega)
  have hm := mst_ofRun (l.take k)
  have hs := (ofRun_len (l.take k)).1
  rw [List.length_take] at hs
  have hx : (ofRun l).2.getD k 0 = (((ofRun (l.take k)).1.idxOf (l.getD k 0) : Nat) : Int) := by
    have h3 : ((ofRun l).2.take (k + 1)).getD k 0 = (ofRun l).2.getD k 0 := by
      rw [List.getD_eq_getElem?_getD, List.getD_eq_getElem?_getD, List.getElem?_take_of_lt (by omega)]
    rw [← h3, ← e2, take_snocI l k hk, ofRun_snoc]
    have h4 : (ofRun (l.take k)).2.length = k := by rw [(ofRun_len _).2, List.length_take]; omega
    generalize ofRun (l.take k) = s at h4
    unfold ofStep
    rw [List.getD_eq_getElem?_getD, List.getElem?_append_right (by omega)]
    simp [h4]
  have hi := List.idxOf_le_length (a := l.getD k 0) (l := (ofRun (l.take k)).1)
  rw [← e1, hm, hx]
  omega

theorem mem_rg (c i : Nat) : ((i : Nat) : Int) ∈ (List.range c).map (fun n : Nat => (n : Int)) ↔ i < c := by
  rw [List.mem_map]
  constructor
  · rintro ⟨a, ha, e⟩
    have := List.mem_range.1 ha
    omega
  · intro h; exact ⟨i, List.mem_range.2 h, rfl⟩
theorem idx_rg (c i : Nat) (h : i ≤ c) : ((List.range c).map (fun n : Nat => (n : Int))).idxOf (i : Int) = i := by
  induction c with
  | zero => have : i = 0 := by omega
            subst this; rfl
  | succ c ih =>
    rw [List.range_succ, List.map_append, List.idxOf_append]
    by_cases hi : i < c
    · rw [if_pos ((mem_rg c i).2 hi)]; exact ih (by omega)
    · rw [if_neg (fun hm => hi ((mem_rg c i).1 hm))]
      by_cases he : i = c
      · subst he; simp
      · have : i = c + 1 := by omega
        subst this
        have hb : ((c : Int) == ((c : Int) + 1)) = false := by rw [beq_eq_false_iff_ne]; omega
        simp [List.idxOf_cons, List.idxOf_nil, hb]
        omega
theorem ofRun_twice (l : List Int) : ofRun (ofRun l).2 = ((List.range (ofRun l).1.length).map (fun n : Nat => (n : Int)), (ofRun l).2) := by
  have : ∀ n (l : List Int), l.length = n → ofRun (ofRun l).2 = ((List.range (ofRun l).1.length).map (fun n : Nat => (n : Int)), (ofRun l).2) := by
    intro n
    induction n with
    | zero => intro l h; have := List.eq_nil_of_length_eq_zero h; subst this; rfl
    | succ n ih =>
      intro l h
      have e := take_snocI l n (by omega)
      rw [List.take_of_length_le (by omega)] at e
      have ih' := ih (l.take n) (by rw [List.length_take]; omega)
      rw [e, ofRun_snoc]
      generalize l.getD n 0 = x
      generalize ofRun (l.take n) = s at ih'
      show ofRun (s.2 ++ [((s.1.idxOf x : Nat) : Int)]) = _
      rw [ofRun_snoc, ih']
      unfold ofStep
      simp only
      have hle := List.idxOf_le_length (a := x) (l := s.1)
      rw [idx_rg _ _ hle]
      by_cases hm : x ∈ s.1
      · have := List.idxOf_lt_length_of_mem hm
        rw [if_pos ((mem_rg _ _).2 this), if_pos hm]
      · have := List.idxOf_eq_length hm
        rw [if_neg (fun h => by have := (mem_rg _ _).1 h; omega), if_neg hm, this, List.length_append, List.length_singleton, List.range_succ, List.map_append]
        rfl
  exact this _ l rfl
theorem ofRun_map (f : Int → Int) (hf : ∀ a b, f a = f b → a = b) (l : List Int) : ofRun (l.map f) = ((ofRun l).1.map f, (ofRun l).2) := by
  have hi : ∀ (s : List Int) (x : Int), (s.map f).idxOf (f x) = s.idxOf x := by
    intro s x
    induction s with
    | nil => rfl
    | cons a s ih =>
      rw [List.map_cons, List.idxOf_cons, List.idxOf_cons, ih]
      by_cases h : a = x
      · subst h; simp
      · have h2 : ¬ f a = f x := fun e => h (hf _ _ e)
        have b1 : (a == x) = false := by rw [beq_eq_false_iff_ne]; exact h
        have b2 : (f a == f x) = false := by rw [beq_eq_false_iff_ne]; exact h2
        rw [b1, b2]
  have hmem : ∀ (s : List Int) (x : Int), f x ∈ s.map f ↔ x ∈ s := by
    intro s x
    rw [List.mem_map]
    exact ⟨fun ⟨a, ha, e⟩ => hf _ _ e ▸ ha, fun h => ⟨x, h, rfl⟩⟩
  have : ∀ (l : List Int) (s : List Int × List Int), (l.map f).foldl ofStep (s.1.map f, s.2) = ((l.foldl ofStep s).1.map f, (l.foldl ofStep s).2) := by
    intro l
    induction l with
    | nil => intro s; rfl
    | cons a l ih =>
      intro s
      rw [List.map_cons, List.foldl_cons, List.foldl_cons, ← ih]
      congr 1
      unfold ofStep
      simp only [hi, hmem]
      by_cases h : a ∈ s.1
      · rw [if_pos h, if_pos h]
      · rw [if_neg h, if_neg h]; simp
  exact this l ([], [])
end Go.Proofs.Ytooghdnlaonkaaa
