/- Several of my texts in one: CycM2, Cyc. -/
import Derived.Test.YtooghdnlaonkaaaRw17
import Derived.Test.YtooghdnlaonkaaaRw18
import Derived.Test.YtooghdnlaonkaaaRw12
/- Plain law of perm.Cycles: what its loops keep. -/
namespace Go.Proofs.Ytooghdnlaonkaaa
open Go.RowKit

open Classical in
/-- none of its turn is less -/
noncomputable def isMinB (p : List Int) (j : Nat) : Bool := decide (∀ t, j ≤ itP p t j)
noncomputable def cntMin (p : List Int) (i : Nat) : Nat := (List.range i).countP (isMinB p)
theorem cntMin_succ (p : List Int) (i : Nat) : cntMin p (i + 1) = cntMin p i + if isMinB p i = true then 1 else 0 := by
  unfold cntMin; rw [List.range_succ, List.countP_append]; simp [List.countP_cons]
structure OutI (p : List Int) (i : Nat) (S : Nat → Bool) (out : List Nat) : Prop where
  fwd : ∀ v, v < p.length → S v = true → S (pf p v) = true
  bwd : ∀ v, v < p.length → S (pf p v) = true → S v = true
  all : ∀ j, j < i → S j = true
  from_ : ∀ v, v < p.length → S v = true → ∃ j, j < i ∧ ∃ t, itP p t j = v
  sum : ∀ g : Nat → Nat, (out.map fun x => x * g x).sum = sumN (fun v => if S v = true then g (ol p v) else 0) p.length
  pos : ∀ x ∈ out, 1 ≤ x ∧ x ≤ p.length
  cnt : out.length = cntMin p i
  le : out.length ≤ i
theorem OutI.zero (p : List Int) : OutI p 0 (fun _ => false) [] :=
  ⟨fun _ _ h => by simp at h, fun _ _ h => by simp at h, fun j h => by omega, fun _ _ h => by simp at h, fun g => by simp [sumN_zero], by simp, by simp [cntMin], by simp⟩
section
variable {p : List Int} (h : IsP p) {i : Nat} {S : Nat → Bool} {out : List Nat} (hi : i < p.length) (H : OutI p i S out)
include h hi H
omit hi in
theorem OutI.fwdN {v : Nat} (hv : v < p.length) (hS : S v = true) : ∀ t, S (itP p t v) = true
  | 0 => hS
  | t + 1 => H.fwd _ (itP_lt h hv t) (OutI.fwdN hv hS t)
omit hi in
theorem OutI.bwdN {v : Nat} (hv : v < p.length) : ∀ t, S (itP p t v) = true → S v = true
  | 0, hS => hS
  | t + 1, hS => OutI.bwdN hv t (H.bwd _ (itP_lt h hv t) hS)
theorem OutI.min : isMinB p i = !S i := by
  unfold isMinB
  cases hS : S i with
  | true =>
    obtain ⟨j, hj, t, e⟩ := H.from_ i hi hS
    simp only [Bool.not_true, decide_eq_false_iff_not]
    intro hall
    -- from j to i in t; back from i to j
    have hjl : j < p.length := by omega
    have hb := itP_mul h hjl t
    have o1 := (ol_spec h hjl).1
    have : itP p (t * ol p j - t) i = j := by
      rw [← e, ← itP_add]
      have : t * ol p j - t + t = t * ol p j := Nat.sub_add_cancel (Nat.le_mul_of_pos_right t o1)
      rw [this]; exact hb
    have := hall (t * ol p j - t)
    omega
  | false =>
    simp only [Bool.not_false, decide_eq_true_eq]
    intro t
    rcases Nat.lt_or_ge (itP p t i) i with h1 | h1
    · have h2 := H.all _ h1
      have := OutI.bwdN h H hi t h2
      rw [hS] at this; cases this
    · exact h1
/-- a place that was come to -/
theorem OutI.skip (hS : S i = true) : OutI p (i + 1) S out := by
  have hm := OutI.min h hi H
  refine ⟨H.fwd, H.bwd, fun j hj => ?_, fun v hv hs => ?_, H.sum, H.pos, ?_, by have := H.le; omega⟩
  · by_cases e : j = i
    · rw [e]; exact hS
    · exact H.all j (by omega)
  · obtain ⟨j, hj, e⟩ := H.from_ v hv hs; exact ⟨j, by omega, e⟩
  · rw [cntMin_succ, hm, hS, H.cnt]; simp
end
/-- within a turn, m places on -/
def Sm (p : List Int) (i : Nat) (S : Nat → Bool) (m : Nat) : Nat → Bool := fun v => S v || (List.range m).any (fun t => itP p t i == v)
theorem Sm_zero (p : List Int) (i : Nat) (S : Nat → Bool) : Sm p i S 0 = S := by funext v; simp [Sm]
theorem Sm_true {p : List Int} {i : Nat} {S : Nat → Bool} {m v : Nat} : Sm p i S m v = true ↔ S v = true ∨ ∃ t, t < m ∧ itP p t i = v := by
  unfold Sm
  rw [Bool.or_eq_true, List.any_eq_true]
  simp only [List.mem_range, beq_iff_eq]
theorem Sm_succ (p : List Int) (i : Nat) (S : Nat → Bool) (m : Nat) : (fun v => if v = itP p m i then true else Sm p i S m v) = Sm p i S (m + 1) := by
  funext v
  rw [Bool.eq_iff_iff, Sm_true]
  by_cases e : v = itP p m i
  · rw [if_pos e]; exact ⟨fun _ => .inr ⟨m, by omega, e.symm⟩, fun _ => rfl⟩
  · rw [if_neg e, Sm_true]
    constructor
    · rintro (h | ⟨t, ht, h⟩)
      · exact .inl h
      · exact .inr ⟨t, by omega, h⟩
    · rintro (h | ⟨t, ht, h⟩)
      · exact .inl h
      · by_cases e2 : t = m
        · subst e2; exact absurd h.symm e
        · exact .inr ⟨t, by omega, h⟩
section
variable {p : List Int} (h : IsP p) {i : Nat} {S : Nat → Bool} {out : List Nat} (hi : i < p.length) (H : OutI p i S out) (hS : S i = false)
include h hi H hS
/-- not yet back -/
theorem OutI.new {m : Nat} (hm : m < ol p i) : Sm p i S m (itP p m i) = false := by
  cases hc : Sm p i S m (itP p m i) with
  | false => rfl
  | true =>
    exfalso
    rcases Sm_true.1 hc with h1 | ⟨t, ht, e⟩
    · have := OutI.bwdN h H hi m h1; rw [hS] at this; cases this
    · exact itP_ne h hi ht hm e
omit H hS in
theorem Sm_back : Sm p i S (ol p i) (itP p (ol p i) i) = true := by
  obtain ⟨o1, _, o3, _⟩ := ol_spec h hi
  exact Sm_true.2 (.inr ⟨0, by omega, by rw [o3]; rfl⟩)
theorem Sm_sum (g : Nat → Nat) : ∀ m, m ≤ ol p i → sumN (fun v => if Sm p i S m v = true then g (ol p v) else 0) p.length = sumN (fun v => if S v = true then g (ol p v) else 0) p.length + m * g (ol p i)
  | 0, _ => by rw [Sm_zero]; omega
  | m + 1, hm => by
    have ih := Sm_sum g m (by omega)
    have hk := itP_lt h hi m
    have hn := OutI.new h hi H hS (m := m) (by omega)
    have := sumN_upd (fun v => if Sm p i S m v = true then g (ol p v) else 0) (itP p m i) (g (ol p i)) p.length hk
    simp only [hn, Bool.false_eq_true, if_false] at this
    have e : sumN (fun v => if Sm p i S (m + 1) v = true then g (ol p v) else 0) p.length = sumN (fun v => if v = itP p m i then g (ol p i) else if Sm p i S m v = true then g (ol p v) else 0) p.length := by
      refine sumN_congr _ fun v _ => ?_
      rw [← Sm_succ]
      by_cases e : v = itP p m i
      · simp only [e, if_true]; rw [ol_it h hi]
      · simp only [if_neg e]
    rw [e, Nat.add_mul, Nat.one_mul]
    omega
theorem OutI.turn : OutI p (i + 1) (Sm p i S (ol p i)) (out ++ [ol p i]) := by
  obtain ⟨o1, o2, o3, o4⟩ := ol_spec h hi
  have hmn := OutI.min h hi H
  refine ⟨fun v hv hs => ?_, fun v hv hs => ?_, fun j hj => ?_, fun v hv hs => ?_, fun g => ?_, fun x hx => ?_, ?_, ?_⟩
  · rcases Sm_true.1 hs with h1 | ⟨t, ht, rfl⟩
    · exact Sm_true.2 (.inl (H.fwd v hv h1))
    · refine Sm_true.2 (.inr ?_)
      by_cases e : t + 1 = ol p i
      · exact ⟨0, by omega, by rw [show pf p (itP p t i) = itP p (t + 1) i from rfl, e, o3]; rfl⟩
      · exact ⟨t + 1, by omega, rfl⟩
  · rcases Sm_true.1 hs with h1 | ⟨t, ht, e⟩
    · exact Sm_true.2 (.inl (H.bwd v hv h1))
    · refine Sm_true.2 (.inr ?_)
      rcases t with _ | t
      · refine ⟨ol p i - 1, by omega, pf_inj h (itP_lt h hi _) hv ?_⟩
        rw [← e, show pf p (itP p (ol p i - 1) i) = itP p (ol p i - 1 + 1) i from rfl, show ol p i - 1 + 1 = ol p i by omega, o3]; rfl
      · exact ⟨t, by omega, pf_inj h (itP_lt h hi _) hv e⟩
  · by_cases e : j = i
    · subst e; exact Sm_true.2 (.inr ⟨0, by omega, rfl⟩)
    · exact Sm_true.2 (.inl (H.all j (by omega)))
  · rcases Sm_true.1 hs with h1 | ⟨t, ht, e⟩
    · obtain ⟨j, hj, e⟩ := H.from_ v hv h1; exact ⟨j, by omega, e⟩
    · exact ⟨i, by omega, t, e⟩
  · rw [Sm_sum h hi H hS g (ol p i) (Nat.le_refl _), List.map_append, List.sum_append, H.sum g]; simp
  · rcases List.mem_append.1 hx with hx | hx
    · exact H.pos x hx
    · rw [List.mem_singleton.1 hx]; exact ⟨o1, o2⟩
  · rw [List.length_append, cntMin_succ, hmn, hS, H.cnt]; simp
  · rw [List.length_append]; have := H.le; simp; omega
end
/-- what perm.Cycles has found -/
structure CycOk (p : List Int) (out : List Nat) : Prop where
  sum : ∀ g : Nat → Nat, (out.map fun x => x * g x).sum = sumN (fun v => g (ol p v)) p.length
  pos : ∀ x ∈ out, 1 ≤ x ∧ x ≤ p.length
  cnt : out.length = cntMin p p.length
  le : out.length ≤ p.length
theorem OutI.ok {p : List Int} {S : Nat → Bool} {out : List Nat} (H : OutI p p.length S out) : CycOk p out :=
  ⟨fun g => by rw [H.sum g]; exact sumN_congr _ fun v hv => by rw [if_pos (H.all v hv)], H.pos, H.cnt, H.le⟩
def natI (l : List Nat) : List Int := l.map fun x : Nat => (x : Int)
theorem natI_len (l : List Nat) : (natI l).length = l.length := by simp [natI]
def cycL (out : List Nat) : List Int := insSd (natI out) (natI out).length
theorem cycL_perm (out : List Nat) : (natI out).Perm (cycL out) := insSd_perm _ _ (Nat.le_refl _)
theorem cycL_len (out : List Nat) : (cycL out).length = out.length := by rw [← (cycL_perm out).length_eq, natI_len]
theorem sum_pick (d : Nat) : ∀ out : List Nat, (out.map fun x => x * (if x = d then 1 else 0)).sum = d * out.count d
  | [] => by simp
  | x :: out => by
    rw [List.map_cons, List.sum_cons, sum_pick d out, List.count_cons]
    by_cases e : x = d
    · subst e; simp [Nat.mul_add]; omega
    · rw [if_neg e]; simp [e]
/-- two orders whose ways back are as long, as often -/
theorem cycL_eq {p q : List Int} {o1 o2 : List Nat} (h1 : CycOk p o1) (h2 : CycOk q o2) (he : ∀ g : Nat → Nat, sumN (fun v => g (ol p v)) p.length = sumN (fun v => g (ol q v)) q.length) : cycL o1 = cycL o2 := by
  refine insSd_eq (List.Perm.map _ (List.perm_iff_count.2 fun d => ?_))
  rcases Nat.eq_zero_or_pos d with hd | hd
  · subst hd
    rw [List.count_eq_zero.2 (fun hx => by have := h1.pos 0 hx; omega), List.count_eq_zero.2 (fun hx => by have := h2.pos 0 hx; omega)]
  · have e1 := h1.sum (fun x => if x = d then 1 else 0)
    have e2 := h2.sum (fun x => if x = d then 1 else 0)
    rw [sum_pick] at e1 e2
    have := he (fun x => if x = d then 1 else 0)
    rw [← e1, ← e2] at this
    exact Nat.eq_of_mul_eq_mul_left hd this
/-! the seen ones, as the cells of an array -/
def snB (S : Nat → Bool) : List Value := (List.range 10).map fun v => Value.bool (S v)
theorem snB_len (S : Nat → Bool) : (snB S).length = 10 := by simp [snB]
theorem snB_get (S : Nat → Bool) (v : Nat) (h : v < 10) : (snB S)[v]? = some (.bool (S v)) := by simp [snB, h]
theorem snB_set (S : Nat → Bool) (k : Nat) (hk : k < 10) : (snB S).set k (.bool true) = snB (fun v => if v = k then true else S v) := by
  refine List.ext_getElem? fun i => ?_
  rw [List.getElem?_set, snB_len]
  by_cases e : k = i
  · subst e; rw [if_pos rfl, if_pos hk, snB_get _ _ hk, if_pos rfl]
  · rw [if_neg e]
    by_cases hi : i < 10
    · rw [snB_get _ _ hi, snB_get _ _ hi, if_neg (fun e' => e e'.symm)]
    · rw [List.getElem?_eq_none (by rw [snB_len]; omega), List.getElem?_eq_none (by rw [snB_len]; omega)]
end Go.Proofs.Ytooghdnlaonkaaa
/- Contracts of perm.Cycles, perm.Sign. -/
namespace Go.Proofs.Ytooghdnlaonkaaa
open Go.RowKit

set_option maxRecDepth 100000 in
set_option maxHeartbeats 1000000 in
theorem insZeroF (w : World) :
    Calls Try.prog 163 #[.slice .none 0 0, .int .i64 0, .int .i64 0, .func (.func 99) #[] #[]] w fun e w' => e = .returned (.tuple #[]) ∧ w = w' := by
  go_enter Try.func163, Try.ntmps163
  go_wp2_with fail
  go_loop [8] (fun i => i = .int .i64 1) (fun _ => 0)
  case atStart => rfl
  case round =>
    subst hrel
    go_wp2_with fail
    go_end0
    exact ⟨rfl, rfl⟩
set_option maxRecDepth 100000 in
set_option maxHeartbeats 1000000 in
theorem pdqZeroF (L : Int) (w : World) :
    Calls Try.prog 139 #[.slice .none 0 0, .int .i64 0, .int .i64 0, .int .i64 L, .func (.func 99) #[] #[]] w fun e w' => e = .returned (.tuple #[]) ∧ w = w' := by
  go_enter Try.func139, Try.ntmps139
  go_wp2_with fail
  go_loop [1, 2, 3] (fun a b l => a = .int .i64 0 ∧ b = .int .i64 0) (fun _ _ _ => 0)
  case atStart => exact ⟨rfl, rfl⟩
  case round =>
    obtain ⟨rfl, rfl⟩ := hrel
    go_wp2_with fail
    refine (insZeroF _).mono ?_; rintro e w' ⟨rfl, rfl⟩
    go_wp2_with fail
    refine bodyPost_ret (results_none rfl _ _ _) rfl ?_
    exact ⟨rfl, rfl⟩
set_option maxRecDepth 100000 in
theorem sortZeroF (w : World) :
    Calls Try.prog 98 #[.slice .none 0 0, .func (.func 99) #[] #[]] w fun e w' => e = .returned (.tuple #[]) ∧ w = w' := by
  go_enter Try.func98, Try.ntmps98
  go_wp2_with fail
  refine (len_12F 0 (by omega) _).mono ?_; rintro e w' ⟨⟨L, rfl⟩, rfl⟩
  go_wp2_with fail
  refine (pdqZeroF _ _).mono ?_; rintro e w' ⟨rfl, rfl⟩
  go_wp2_with fail
  go_end0
  exact ⟨rfl, rfl⟩

def CycSaid (p : List Int) (w : World) (e : Ending) (w' : World) : Prop :=
  ∃ (ad : Option Addr) (cp : Nat) (out : List Nat), e = .returned (.tuple #[.slice ad out.length cp, .int .i64 0]) ∧ CycOk p out ∧ Fr w w' [⟨3, .slice ad out.length cp, ints (cycL out)⟩]
set_option maxRecDepth 100000 in
set_option maxHeartbeats 4000000 in
theorem cycles_any (p : List Int) (n : Nat) (a : Option Addr) (cap : Nat) (w : World) (h : Sa w a (ints p)) (hn : p.length = n) (hp : IsP p) (h10 : n ≤ 10) :
    Calls Try.prog 51 #[.slice a n cap] w (CycSaid p w) := by
  have HS := Lib.hid h; have HN := Lib.hid hn; have HP := Lib.hid hp
  clear h hn
  go_enter Try.func51, Try.ntmps51
  go_wp2_with fail
  refine (permChk p n _ _ _ HS.out HN.out HP.out h10).mono ?_; rintro e w1 ⟨rfl, F1⟩
  go_wp2_with fail
  have F2 := F1.new 138 #[.bool false, .bool false, .bool false, .bool false, .bool false, .bool false, .bool false, .bool false, .bool false, .bool false] (snB fun _ => false) rfl 10 rfl (by omega)
  obtain ⟨B, hB⟩ : ∃ B, w1.heap.size = B := ⟨_, rfl⟩
  rw [hB] at F2 ⊢
  clear hp F1
  go_loopw [6, 17] (fun o i wr => ∃ (k : Nat) (ad : Option Addr) (cp N : Nat) (S : Nat → Bool) (out : List Nat), k ≤ n ∧ i = .int .i64 k ∧ o = .slice ad N cp ∧ N ≤ 10 ∧ Hid (N = out.length ∧ (N = 0 → ad = .none ∧ cp = 0)) ∧ Hid (OutI p k S out) ∧
    Fr w wr [⟨3, .slice ad N cp, ints (natI out)⟩, ⟨138, .slice (some ⟨B, 0, .none⟩) 10 10, snB S⟩]) (fun _ i _ => n - (intOf i).toNat)
  case atStart => exact ⟨0, .none, 0, 0, fun _ => false, [], by omega, rfl, rfl, by omega, Lib.hid ⟨rfl, fun _ => ⟨rfl, rfl⟩⟩, Lib.hid (OutI.zero p), F2.nilSlice _⟩
  case round =>
    obtain ⟨k, ad, cp, N, S, out, hk, rfl, rfl, hN10, HNO, HO, hfr⟩ := hrel
    clear F2
    by_cases hlt : k < n
    · have hkp : k < p.length := by rw [HN.out]; exact hlt
      have HKP := Lib.hid hkp
      have HOL := Lib.hid (ol_spec HP.out hkp)
      clear hkp
      have e1 : (0 : Int) ≤ (k : Int) := by omega
      have e2 : (k : Int) < (n : Int) := by omega
      by_cases hS : S k = true
      · have HSK := Lib.hid (OutI.skip HP.out HKP.out HO.out hS)
        obtain ⟨g, e, _, _, hcell, hz⟩ := hfr.swap.open (by rw [snB_len]; omega)
        cases e
        have c1 := hcell k (by rw [snB_len]; omega)
        rw [snB_get _ _ (by omega), hS] at c1
        have d2 : (k : Int) < 10 := by omega
        clear hcell hz hS
        go_wp2_with fail
        go_loopw [8, 9] (fun n k' wr' => n = .int .i64 0 ∧ k' = .int .i64 k ∧ wr' = wr) (fun _ _ _ => 0)
        case atStart => exact ⟨rfl, rfl, rfl⟩
        case round =>
          obtain ⟨rfl, rfl, rfl⟩ := hrel
          go_wp2_with fail
          exact ⟨⟨k + 1, ad, cp, N, S, out, by omega, by simp, rfl, hN10, HNO, HSK, hfr⟩, by simp only [intOf]; omega⟩
      · have hSf : S k = false := by simpa using hS
        clear hS
        have HT := Lib.hid (OutI.turn HP.out HKP.out HO.out hSf)
        have HNEW : Hid (∀ m, m < ol p k → Sm p k S m (itP p m k) = false) := Lib.hid fun m hm => OutI.new HP.out HKP.out HO.out hSf hm
        have HBK := Lib.hid (Sm_back (S := S) HP.out HKP.out)
        have HF := Lib.hid hfr
        clear hfr hSf
        go_wp2_with fail
        go_loopw [8, 9] (fun n' k' wr => ∃ (m v : Nat), m ≤ ol p k ∧ m ≤ 10 ∧ v < 10 ∧ v < n ∧ n' = .int .i64 m ∧ k' = .int .i64 v ∧ Hid (v = itP p m k) ∧ Fr w wr [⟨3, .slice ad N cp, ints (natI out)⟩, ⟨138, .slice (some ⟨B, 0, .none⟩) 10 10, snB (Sm p k S m)⟩]) (fun n' _ _ => ol p k - (intOf n').toNat)
        case atStart => exact ⟨0, k, by omega, by omega, by omega, hlt, rfl, rfl, Lib.hid rfl, by rw [Sm_zero]; exact HF.out⟩
        case round =>
          obtain ⟨m, v, hm, hm10, hv10, hvn, rfl, rfl, HV, hfr⟩ := hrel
          obtain ⟨g, e, _, _, hcell, hz⟩ := hfr.swap.open (by rw [snB_len]; omega)
          cases e
          have c1 := hcell v (by rw [snB_len]; exact hv10)
          rw [snB_get _ _ hv10] at c1
          have z1 := hz v
          clear hcell hz
          have d1 : (0 : Int) ≤ (v : Int) := by omega
          have d2 : (v : Int) < 10 := by omega
          have d3 : (v : Int) < (n : Int) := by omega
          by_cases hlt2 : m < ol p k
          · have hnw := HNEW.out m hlt2
            rw [← HV.out] at hnw
            rw [hnw] at c1
            obtain ⟨b0, off, rfl, hb0, c2⟩ := (hfr.old HS.out).int v (by rw [HN.out]; exact hvn)
            have hb0' : b0 < w.heap.size := by
              obtain ⟨b', o', e', hb', _⟩ := HS.out.int v (by rw [HN.out]; exact hvn)
              cases e'; exact hb'
            have hBB : w.heap.size ≤ B := by
              have := (Ent.own.lt (hfr.os.own _ (List.mem_cons_of_mem _ List.mem_cons_self)) B rfl).1
              exact this
            have nb : b0 ≠ B := by omega
            have F3 := Fr.swap (hfr.swap.set v (.bool true))
            have hset : (snB (Sm p k S m)).set v (.bool true) = snB (Sm p k S (m + 1)) := by
              rw [snB_set _ _ hv10, HV.out, Sm_succ]
            rw [hset] at F3
            have HF3 := Lib.hid F3
            have hpv := pf_lt HP.out (show v < p.length by rw [HN.out]; exact hvn)
            rw [HN.out] at hpv
            have hx : nth p v = ((pf p v : Nat) : Int) := ((HP.out.at v (by rw [HN.out]; exact hvn)).2).symm
            have HV2 : Hid (pf p v = itP p (m + 1) k) := Lib.hid (by rw [HV.out]; rfl)
            rw [hx] at c2
            obtain ⟨u, hu⟩ : ∃ u, pf p v = u := ⟨_, rfl⟩
            rw [hu] at c2 hpv HV2
            have hm1 : m + 1 ≤ 10 := by have := HOL.out.2.1; rw [HN.out] at this; omega
            clear hfr F3 hset hx hu hnw hb0' hBB
            go_wp2_with fail
            exact ⟨⟨m + 1, u, by omega, hm1, by omega, hpv, by simp, rfl, HV2, HF3.out⟩, by simp only [intOf]; omega⟩
          · have hmo : m = ol p k := by omega
            have hbk := HBK.out
            rw [← hmo, ← HV.out] at hbk
            rw [hbk] at c1
            have h1 := HOL.out.1
            have m0 : 0 < m := by omega
            have HT2 := HT.out
            rw [← hmo] at HT2
            have HT3 := Lib.hid HT2
            have HF3 := Lib.hid hfr
            clear z1 hbk HT2 HT hmo hfr h1
            go_wp2_with (with_reducible refine at_slot 38 ?_; go_must (refine wpList_pushInt rfl _ _ rfl ad N cp _ m _ rfl HF3.out rfl ?_ ?_); rotate_left; intro ad' cp' w2 hf2 hlt2)
            · go_wp2_with fail
              have hle := HT3.out.le
              rw [List.length_append, List.length_singleton, ← HNO.out.1] at hle
              exact ⟨⟨k + 1, ad', cp', N + 1, _, out ++ [m], by omega, by simp, rfl, by omega, Lib.hid ⟨by rw [HNO.out.1]; simp, fun e => by omega⟩, HT3, by rw [show natI (out ++ [m]) = natI out ++ [(m : Int)] from by simp [natI]]; exact hf2⟩, by simp only [intOf]; omega⟩
            · omega
    · obtain rfl : k = n := by omega
      have hok : CycOk p out := OutI.ok (by have := HO.out; rwa [← HN.out] at this)
      have HOK := Lib.hid hok
      obtain rfl : N = out.length := HNO.out.1
      have HZ := Lib.hid HNO.out.2
      have F5 := hfr.sub (M := [⟨3, .slice ad out.length cp, ints (natI out)⟩]) (by simp)
      have HF5 := Lib.hid F5
      have HBD : Hid (∀ v ∈ natI out, 0 ≤ v ∧ v ≤ 1000) := Lib.hid fun v hv => by
        unfold natI at hv
        obtain ⟨x, hx, rfl⟩ := List.mem_map.1 hv
        have := hok.pos x hx
        have h2 := HN.out
        omega
      obtain ⟨M, hM⟩ : ∃ M, out.length = M := ⟨_, rfl⟩
      have HM := Lib.hid hM
      rw [hM] at HF5 hN10 HZ ⊢
      clear hok HNO F5 hfr hM
      rcases Nat.eq_zero_or_pos M with h0 | h0
      · subst h0
        have h0' : out = [] := List.eq_nil_of_length_eq_zero HM.out
        subst h0'
        obtain ⟨rfl, rfl⟩ := HZ.out rfl
        go_wp2_with fail
        refine (sortZeroF _).mono ?_; rintro e w' ⟨rfl, rfl⟩
        go_wp2_with fail
        go_ret2
        exact ⟨.none, 0, [], rfl, HOK.out, HF5.out⟩
      · obtain ⟨g, e, -, -, -⟩ := HF5.out.openI 0 (by rw [natI_len, HM.out]; exact h0)
        subst e
        go_wp2_with fail
        refine (slSortF (natI out) M cp g _ HF5.out (by omega) (by omega) HBD.out).mono ?_; rintro e w3 ⟨rfl, hf⟩
        have HF6 := Lib.hid hf
        clear hf
        go_wp2_with fail
        go_ret2
        refine ⟨some ⟨g, 0, .none⟩, cp, out, by rw [HM.out]; rfl, HOK.out, ?_⟩
        have e : cycL out = insSd (natI out) M := by unfold cycL; rw [natI_len, HM.out]
        rw [e, HM.out]; exact HF6.out
end Go.Proofs.Ytooghdnlaonkaaa
