/- Several of my texts in one: TabK4. -/
import Derived.Test.YtooghdnlaonkaaaRw40
import Derived.Test.YtooghdnlaonkaaaRw34
import Derived.Test.YtooghdnlaonkaaaRw16
import Derived.Test.YtooghdnlaonkaaaRw37
/- Right tableaux, as the program and as the law see them; tableau.Back where they are not right. -/
namespace Go.Proofs.Ytooghdnlaonkaaa
open Go.RowKit

theorem stdE_of : ∀ ls : List (List Int), (∀ i, i < ls.length → (ls.getD i []).Pairwise (· < ·)) → (∀ i, i + 1 < ls.length → Dom (ls.getD i []) (ls.getD (i + 1) [])) → StdE ls
  | [], _, _ => trivial
  | r :: rs, h1, h2 => by
    refine ⟨by simpa using h1 0 (by simp), stdE_of rs (fun i hi => by have := h1 (i + 1) (by simpa using hi); simpa using this) (fun i hi => by have := h2 (i + 1) (by simpa using hi); simpa using this), fun s hs => ?_⟩
    cases rs with
    | nil => cases hs
    | cons s' rs =>
      have : s' = s := by simpa using hs
      subst this
      have := h2 0 (by simp)
      simpa using this
theorem befo_le (ls : List (List Int)) {i k : Nat} (hi : i < ls.length) (_ : k ≤ lenN ls i) : ∃ R, ls.flatten = befo ls i k ++ R := by
  have e1 : ls = ls.take (i + 1) ++ ls.drop (i + 1) := (List.take_append_drop _ _).symm
  have e2 : ls.getD i [] = (ls.getD i []).take k ++ (ls.getD i []).drop k := (List.take_append_drop _ _).symm
  refine ⟨(ls.getD i []).drop k ++ (ls.drop (i + 1)).flatten, ?_⟩
  have e3 : ls.flatten = (ls.take (i + 1)).flatten ++ (ls.drop (i + 1)).flatten := by rw [← List.flatten_append, List.take_append_drop]
  rw [e3, flat_take ls i hi]
  unfold befo
  conv => lhs; rw [e2]
  simp only [List.append_assoc]
theorem tabOk_nodup {ls : List (List Int)} (h : TabOk ls) : ls.flatten.Nodup ∧ ∀ v ∈ ls.flatten, 0 ≤ v ∧ v < (totN ls : Int) := by
  have hp := befo_all (Pr := fun x B => x ∉ B ∧ 0 ≤ x ∧ x < (totN ls : Int)) ls (fun i k hi hk => by
    obtain ⟨h1, h2, h3, _⟩ := h.cell i k hi hk
    exact ⟨h3, h1, h2⟩) ls.length (Nat.le_refl _)
  rw [List.take_length] at hp
  refine ⟨?_, fun v hv => ?_⟩
  · unfold List.Nodup
    rw [List.pairwise_iff_getElem]
    intro i j hi hj hij e
    have := (hp j hj).1
    rw [nth_get _ j hj, ← e] at this
    exact this (by
      rw [List.mem_take_iff_getElem]
      exact ⟨i, by omega, rfl⟩)
  · obtain ⟨n, hn, rfl⟩ := mem_nth hv
    exact (hp n hn).2
theorem tabOk_std {ls : List (List Int)} (h : TabOk ls) : StdE ls := by
  have hnd := tabOk_nodup h
  refine stdE_of ls (fun i hi => ?_) (fun i hi => ?_)
  · have step : ∀ k, k + 1 < lenN ls i → cellN ls i k < cellN ls i (k + 1) := fun k hk => by
      obtain ⟨_, _, h3, h4, _⟩ := h.cell i (k + 1) hi hk
      have h5 := h4 (by omega)
      rw [Nat.add_sub_cancel] at h5
      have : cellN ls i k ≠ cellN ls i (k + 1) := fun e => h3 (by
        rw [befo_step ls i k (by omega), ← e]; simp)
      omega
    refine pw_of_nth fun a b hab hb => ?_
    have : ∀ d, a + d + 1 < lenN ls i → cellN ls i a < cellN ls i (a + d + 1) := fun d => by
      induction d with
      | zero => intro h; exact step a h
      | succ d ih => intro h; have := ih (by omega); have := step (a + d + 1) h; rw [show a + (d + 1) + 1 = a + d + 1 + 1 by omega]; omega
    have := this (b - a - 1) (by unfold lenN; omega)
    rw [show a + (b - a - 1) + 1 = b by omega] at this
    exact this
  · have hr := (h.row (i + 1) hi).2 (by omega)
    rw [Nat.add_sub_cancel] at hr
    refine ⟨hr, fun k hk => ?_⟩
    obtain ⟨_, _, h3, _, h5⟩ := h.cell (i + 1) k hi hk
    have h6 := h5 (by omega)
    rw [Nat.add_sub_cancel] at h6
    have : cellN ls i k ≠ cellN ls (i + 1) k := fun e => h3 (by
      unfold befo
      refine List.mem_append_left _ ?_
      rw [flat_take ls i (by omega), ← e]
      exact List.mem_append_right _ (nth_mem _ _ (Nat.lt_of_lt_of_le hk hr)))
    show cellN ls i k < cellN ls (i + 1) k
    omega
theorem full_range {l : List Int} {n : Nat} (hn : l.Nodup) (hl : l.length = n) (hb : ∀ v ∈ l, 0 ≤ v ∧ v < (n : Int)) (v : Int) (h0 : 0 ≤ v) (h1 : v < (n : Int)) : v ∈ l := by
  apply Classical.byContradiction
  intro hv
  have nd : (v :: l).Nodup := List.nodup_cons.2 ⟨hv, hn⟩
  have := List.Nodup.length_le_of_subset (l₂ := (List.range n).map fun k : Nat => (k : Int)) nd (fun x hx => by
    have : 0 ≤ x ∧ x < (n : Int) := by
      rcases List.mem_cons.1 hx with rfl | hx
      · exact ⟨h0, h1⟩
      · exact hb x hx
    exact List.mem_map.2 ⟨x.toNat, List.mem_range.2 (by omega), by omega⟩)
  simp at this
  omega
theorem tabOk_gd {P Q : List (List Int)} (hp : TabOk P) (hq : TabOk Q) (e : P.map List.length = Q.map List.length) : Gd P Q (totN P) := by
  have htot : totN P = totN Q := by unfold totN; rw [e]
  obtain ⟨p1, p2⟩ := tabOk_nodup hp
  obtain ⟨q1, q2⟩ := tabOk_nodup hq
  rw [← htot] at q2
  refine ⟨tabOk_std hp, tabOk_std hq, e, fun v => ⟨q2 v, fun h => full_range q1 (by rw [flat_len, htot]) q2 v h.1 h.2⟩, q1, p1⟩
theorem stdT_get : ∀ (ls : List (List Int)), StdT ls → (∀ i, i < ls.length → 0 < lenN ls i ∧ (ls.getD i []).Pairwise (· < ·)) ∧ ∀ i, i + 1 < ls.length → Dom (ls.getD i []) (ls.getD (i + 1) [])
  | [], _ => ⟨fun i hi => by simp at hi, fun i hi => by simp at hi⟩
  | r :: rs, h => by
    obtain ⟨i1, i2⟩ := stdT_get rs h.2.2.1
    refine ⟨fun i hi => ?_, fun i hi => ?_⟩
    · cases i with
      | zero => exact ⟨by unfold lenN; simpa using List.length_pos_iff.2 h.1, by simpa using h.2.1⟩
      | succ i => have := i1 i (by simpa using hi); unfold lenN at this ⊢; simpa using this
    · cases i with
      | zero =>
        cases rs with
        | nil => simp at hi
        | cons s rs => have := h.2.2.2 s rfl; simpa using this
      | succ i => have := i2 i (by simpa using hi); simpa using this
theorem tabOk_of {ls : List (List Int)} (h : StdT ls) (hn : ls.flatten.Nodup) (hb : ∀ v ∈ ls.flatten, 0 ≤ v ∧ v < (totN ls : Int)) (ht : totN ls ≤ 10) : TabOk ls := by
  obtain ⟨i1, i2⟩ := stdT_get ls h
  have few : ∀ m, m ≤ ls.length → m ≤ totN (ls.take m) := fun m => by
    induction m with
    | zero => intro _; exact Nat.zero_le _
    | succ m ih =>
      intro hm
      have := ih (by omega)
      have := (i1 m (by omega)).1
      rw [totN_take ls m (by omega)]; omega
  refine ⟨ht, by have := few ls.length (Nat.le_refl _); rw [List.take_length] at this; omega, fun i hi => ⟨(i1 i hi).1, fun h0 => ?_⟩, fun i k hi hk => ?_⟩
  · have := (i2 (i - 1) (by omega)).1
    rw [show i - 1 + 1 = i by omega] at this
    exact this
  · obtain ⟨R, hR⟩ := befo_le ls hi (show k + 1 ≤ lenN ls i by omega)
    rw [befo_step ls i k hk] at hR
    have hm : cellN ls i k ∈ ls.flatten := by rw [hR]; simp
    have hb' := hb _ hm
    refine ⟨hb'.1, hb'.2, fun hin => ?_, fun h0 => ?_, fun h0 => ?_⟩
    · rw [hR, List.append_assoc, List.nodup_append] at hn
      exact hn.2.2 _ hin _ (by simp) rfl
    · exact Int.le_of_lt (pw_nth_lt (i1 i hi).2 (by omega) hk)
    · have hd := i2 (i - 1) (by omega)
      rw [show i - 1 + 1 = i by omega] at hd
      exact Int.le_of_lt (hd.2 k hk)
theorem isP_of {l : List Int} (hn : l.Nodup) (hb : ∀ v ∈ l, 0 ≤ v ∧ v < (l.length : Int)) : IsP l :=
  ⟨fun _ hi => hb _ (nth_mem l _ hi), fun _ _ hi hj e => nodup_nth hn hi hj e⟩
theorem isP_mem {l : List Int} (h : IsP l) : ∀ v ∈ l, 0 ≤ v ∧ v < (l.length : Int) := fun v hv => by
  obtain ⟨i, hi, rfl⟩ := mem_nth hv
  exact h.bd i hi
theorem ins_flat {w : List Int} : (insAll w).flatten.Perm w := by
  have := rsk_flat w w.length (Nat.le_refl _)
  rw [rsk_P w w.length (Nat.le_refl _), List.take_length] at this
  exact this
theorem ins_ok {w : List Int} (h : IsP w) (hl : w.length ≤ 10) : TabOk (insAll w) ∧ totN (insAll w) = w.length := by
  have hp := ins_flat (w := w)
  have ht : totN (insAll w) = w.length := by rw [← flat_len, hp.length_eq]
  exact ⟨tabOk_of (ins_std _ w rfl (isP_nodup h)) (hp.nodup_iff.2 (isP_nodup h)) (fun v hv => by rw [ht]; exact isP_mem h v (hp.mem_iff.1 hv)) (by omega), ht⟩
/-- what the two tableaux of an order are -/
theorem rsk_ok {A : List Int} {n : Nat} (h : IsP A) (hn : A.length = n) (hl : n ≤ 10) (hQ : (rsk A n).2 = (rsk (invL A) n).1) :
    TabOk (rsk A n).1 ∧ TabOk (rsk A n).2 ∧ (rsk A n).1.map List.length = (rsk A n).2.map List.length ∧ totN (rsk A n).1 = n ∧ back n (rsk A n).1 (rsk A n).2 = A := by
  have e1 : (rsk A n).1 = insAll A := by rw [rsk_P A n (by omega), List.take_of_length_le (by omega)]
  have hv := inv_isP h
  have hvl := invL_len A
  have e2 : (rsk A n).2 = insAll (invL A) := by rw [hQ, rsk_P _ n (by omega), List.take_of_length_le (by omega)]
  obtain ⟨o1, o2⟩ := ins_ok h (by omega)
  obtain ⟨o3, o4⟩ := ins_ok hv (by omega)
  have hlens : (rsk A n).1.map List.length = (rsk A n).2.map List.length := (rsk_shape A n).1
  rw [← e1] at o1 o2
  rw [← e2] at o3 o4
  rw [hn] at o2
  refine ⟨o1, o3, hlens, o2, ?_⟩
  have G := tabOk_gd o1 o3 hlens
  rw [o2] at G
  have hb := rsk_back n _ _ G
  have t1 := (trim_full (L := (rsk A n).1) (fun r hr e => by
    have := (rsk_shape A n).2.2 r.length (List.mem_map_of_mem hr)
    rw [e] at this; simp at this)).1
  have t2 := (trim_full (L := (rsk A n).2) (fun r hr e => by
    have := (rsk_shape A n).2.2 r.length (by rw [(rsk_shape A n).1]; exact List.mem_map_of_mem hr)
    rw [e] at this; simp at this)).1
  rw [t1, t2] at hb
  have hp := back_perm n _ _ G
  have hcn : (back n (rsk A n).1 (rsk A n).2).Nodup := hp.nodup_iff.2 G.pd
  have hcl := back_len n (rsk A n).1 (rsk A n).2
  have hA := isP_nodup h
  refine ext_nth (by rw [hcl, hn]) fun i hi => ?_
  rw [hcl] at hi
  have stdAll : ∀ (w : List Int) (k : Nat), w.Nodup → k ≤ w.length → StdE (rsk w k).1 := fun w k hw hk => by
    rw [rsk_P w k hk]
    exact stdT_E (ins_std _ _ rfl (hw.sublist (List.take_sublist _ _)))
  exact rsk_inj _ A n (by omega) (by omega) (hcn.sublist (List.take_sublist _ _)) (hA.sublist (List.take_sublist _ _)) (fun k hk => stdAll _ k hcn (by omega)) (fun k hk => stdAll _ k hA (by omega)) hb i hi
/-- the order that two tableaux tell -/
theorem back_ok {P Q : List (List Int)} (hp : TabOk P) (hq : TabOk Q) (e : P.map List.length = Q.map List.length) :
    IsP (back (totN P) P Q) ∧ rsk (back (totN P) P Q) (totN P) = (P, Q) := by
  have G := tabOk_gd hp hq e
  have hperm := back_perm _ _ _ G
  have hl := back_len (totN P) P Q
  obtain ⟨p1, p2⟩ := tabOk_nodup hp
  refine ⟨isP_of (hperm.nodup_iff.2 p1) (fun v hv => by rw [hl]; exact p2 v (hperm.mem_iff.1 hv)), ?_⟩
  have ne : ∀ {L : List (List Int)}, TabOk L → ∀ r ∈ L, r ≠ [] := fun {L} h r hr er => by
    obtain ⟨i, hi, rfl⟩ := List.getElem_of_mem hr
    have := (h.row i hi).1
    unfold lenN at this
    rw [getD_get L i hi, er] at this
    simp at this
  rw [rsk_back _ _ _ G, (trim_full (ne hp)).1, (trim_full (ne hq)).1]
theorem first_ne (f g : Nat → Nat) : ∀ m, (∃ j, j < m ∧ f j ≠ g j) → ∃ j, j < m ∧ f j ≠ g j ∧ ∀ i, i < j → f i = g i
  | 0, ⟨j, h, _⟩ => by omega
  | m + 1, ⟨j, h, hne⟩ => by
    by_cases hc : ∃ j, j < m ∧ f j ≠ g j
    · obtain ⟨j, h1, h2, h3⟩ := first_ne f g m hc
      exact ⟨j, by omega, h2, h3⟩
    · refine ⟨j, h, hne, fun i hi => Classical.byContradiction fun hn => hc ⟨i, by omega, hn⟩⟩
set_option maxRecDepth 100000 in
set_option maxHeartbeats 8000000 in
theorem tabBackNo (RP RQ : List Rw) (P Q : List (List Int)) (mp mq : Nat) (ap aq : Option Addr) (cp cq : Nat) (w : World) (hp : Rm w ap RP) (hq : Rm w aq RQ) (hlp : lsR RP = P) (hlq : lsR RQ = Q) (hmp : P.length = mp) (hmq : Q.length = mq)
    (h1 : mp ≤ 9223372036854775807) (h2 : mq ≤ 9223372036854775807) (h3 : ∀ i, i < mp → lenN P i ≤ 9223372036854775807) (h4 : ∀ i, i < mq → lenN Q i ≤ 9223372036854775807)
    (hno : ¬ (TabOk P ∧ TabOk Q ∧ P.map List.length = Q.map List.length)) :
    Calls Try.prog 27 #[.agg #[.slice ap mp cp, .slice aq mq cq]] w fun e w' => ∃ er : Int, er ≠ 0 ∧ e = .returned (.tuple #[.slice .none 0 0, .int .i64 er]) ∧ Fr w w' [] := by
  have HP := Lib.hid hp; have HQ := Lib.hid hq; have HLP := Lib.hid hlp; have HLQ := Lib.hid hlq; have HMP := Lib.hid hmp; have HMQ := Lib.hid hmq
  have H3 := Lib.hid h3; have H4 := Lib.hid h4; have HNO := Lib.hid hno
  clear hp hq hlp hlq hmp hmq h3 h4 hno
  go_enter Try.func27, Try.ntmps27
  go_wp2_with fail
  have HF0 := Lib.hid ((Fr.start w).rp (.slice ap mp cp) (.slice aq mq cq) w.heap.size rfl)
  refine (tabChk RP P mp ap cp _ (HP.out.keep HF0.out.bel) HLP.out HMP.out h1 H3.out).mono ?_
  rintro e w1 ⟨er, rfl, her, hf⟩
  obtain ⟨N, hN⟩ : ∃ N, w.heap.size = N := ⟨_, rfl⟩
  have HF1 : Hid (Fr w w1 [eP N (.slice ap mp cp) (.slice aq mq cq)]) := Lib.hid (by rw [← hN]; exact HF0.out.keep hf.bel)
  rw [hN]
  clear hf HF0 hN
  obtain ⟨c0, c1, -, -, -, -⟩ := HF1.out.rpM (b := N) (v1 := .slice ap mp cp) (v2 := .slice aq mq cq) (by simp)
  rcases her with ⟨rfl, hok⟩ | ⟨hne, -⟩
  · have HOK := Lib.hid hok
    clear hok
    go_wp2_with fail
    refine (tabChk RQ Q mq aq cq _ (HQ.out.keep HF1.out.bel) HLQ.out HMQ.out h2 H4.out).mono ?_
    rintro e w2 ⟨er, rfl, her, hf⟩
    have HF2 := Lib.hid (HF1.out.keep hf.bel)
    clear hf HF1 c0 c1
    obtain ⟨c0, c1, -, -, -, -⟩ := HF2.out.rpM (b := N) (v1 := .slice ap mp cp) (v2 := .slice aq mq cq) (by simp)
    rcases her with ⟨rfl, hok2⟩ | ⟨hne, -⟩
    · have HOK2 := Lib.hid hok2
      clear hok2
      by_cases hm : mp = mq
      · subst hm
        have z0 : ((mp : Int) != (mp : Int)) = false := by simp
        obtain ⟨j, hj1, hj2, hj3⟩ := first_ne (lenN P) (lenN Q) mp (Classical.byContradiction fun hc => HNO.out ⟨HOK.out, HOK2.out, by
          apply List.ext_getElem (by simp [HMP.out, HMQ.out])
          intro i hi1 hi2
          rw [List.length_map] at hi1 hi2
          rw [List.getElem_map, List.getElem_map]
          have : lenN P i = lenN Q i := Classical.byContradiction fun hn => hc ⟨i, by rw [HMP.out] at hi1; exact hi1, hn⟩
          unfold lenN at this
          rw [getD_get P i hi1, getD_get Q i hi2] at this
          exact this⟩)
        have HJ3 := Lib.hid hj3
        have htk : ∀ k, k ≤ mp → totN (P.take k) ≤ 10 := fun k hk => by
          have e : totN P = totN (P.take k) + totN (P.drop k) := by
            unfold totN
            rw [← List.sum_append, ← List.map_append, List.take_append_drop]
          have := HOK.out.tot
          omega
        have HTK := Lib.hid htk
        have h10 : mp ≤ 10 := by have := HOK.out.few; rw [HMP.out] at this; exact this
        clear hj3 htk
        go_wp2_with fail
        clear z0
        go_loop [6, 39] (fun s i => ∃ k : Nat, k ≤ j ∧ i = .int .i64 k ∧ s = .int .i64 (totN (P.take k) : Nat)) (fun _ i => mp - (intOf i).toNat)
        case atStart => exact ⟨0, by omega, rfl, rfl⟩
        case round =>
          obtain ⟨k, hk, rfl, rfl⟩ := hrel
          have htk := HTK.out k (by omega)
          obtain ⟨b1, o1, a1, q1, rfl, -, x1, -⟩ := (HP.out.keep HF2.out.bel).rowAt HLP.out k (by rw [HMP.out]; omega)
          obtain ⟨b2, o2, a2, q2, rfl, -, x2, -⟩ := (HQ.out.keep HF2.out.bel).rowAt HLQ.out k (by rw [HMQ.out]; omega)
          have e1 : (P.getD k []).length = lenN P k := rfl
          have e2 : (Q.getD k []).length = lenN Q k := rfl
          rw [e1] at x1
          rw [e2] at x2
          have HST := Lib.hid (totN_take P k (by rw [HMP.out]; omega))
          have d1 : (0 : Int) ≤ (k : Int) := by omega
          have d2 : (k : Int) < (mp : Int) := by omega
          have hb := lenN_tot P k (by rw [HMP.out]; omega)
          have htt := HOK.out.tot
          by_cases hkj : k = j
          · subst hkj
            obtain ⟨z, hz⟩ : ∃ z, lenN P k = z := ⟨_, rfl⟩
            obtain ⟨y, hy⟩ : ∃ y, lenN Q k = y := ⟨_, rfl⟩
            obtain ⟨S, hS⟩ : ∃ S, totN (P.take k) = S := ⟨_, rfl⟩
            rw [hz] at x1 hj2
            rw [hy] at x2 hj2
            rw [hS]
            have z1 : ((z : Int) != (y : Int)) = true := by rw [bne_iff_ne]; omega
            clear e1 e2 hz hy hS hj2 HST
            go_wp2_with fail
            go_ret2
            exact ⟨1, by decide, rfl, HF2.out.below⟩
          · have heq := HJ3.out k (by omega)
            rw [← heq] at x2
            obtain ⟨z, hz⟩ : ∃ z, lenN P k = z := ⟨_, rfl⟩
            obtain ⟨S, hS⟩ : ∃ S, totN (P.take k) = S := ⟨_, rfl⟩
            rw [hz] at x1 x2 hb HST
            rw [hS] at htk HST ⊢
            have z1 : ((z : Int) != (z : Int)) = false := by simp
            have hz10 : z ≤ 10 := by omega
            clear e1 e2 hz hS heq hj2 hb htt
            go_wp2_with fail
            exact ⟨⟨k + 1, by omega, by simp, by rw [HST.out]; simp⟩, by simp only [intOf]; omega⟩
      · have z0 : ((mp : Int) != (mq : Int)) = true := by rw [bne_iff_ne]; omega
        go_wp2_with fail
        go_ret2
        exact ⟨1, by decide, rfl, HF2.out.below⟩
    · have z : (er != 0) = true := by rw [bne_iff_ne]; exact hne
      go_wp2_with fail
      go_ret2
      exact ⟨er, hne, rfl, HF2.out.below⟩
  · have z : (er != 0) = true := by rw [bne_iff_ne]; exact hne
    go_wp2_with fail
    go_ret2
    exact ⟨er, hne, rfl, HF1.out.below⟩
end Go.Proofs.Ytooghdnlaonkaaa
