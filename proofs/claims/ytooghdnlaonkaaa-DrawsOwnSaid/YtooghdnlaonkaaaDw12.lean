/- Several of my texts in one: Urn, Urn2. -/
import Derived.Test.YtooghdnlaonkaaaDw10
import Derived.Test.YtooghdnlaonkaaaDw11
import Derived.RegionTactic
/- Contracts of package urn. -/
namespace Go.Proofs.Ytooghdnlaonkaaa
open Go.RowKit

/-- a ratio in a block of its own -/
def eR (b : Nat) (X Y : Int) : Ent := ⟨128, .slice (some ⟨b, 0, .none⟩) 2 2, ints [X, Y]⟩
theorem Fr.rat {w0 w : World} {L : List Ent} (h : Fr w0 w L) (X Y : Int) : Fr w0 (w.alloc (.cells #[.int .i64 X, .int .i64 Y] 128)) (eR w.heap.size X Y :: L) :=
  h.lit [X, Y] #[.int .i64 X, .int .i64 Y] rfl 2 rfl (by omega) 128
theorem Fr.rat' {w0 w : World} {L : List Ent} (h : Fr w0 w L) (X Y : Int) (N : Nat) (hN : w.heap.size = N) : Fr w0 (w.alloc (.cells #[.int .i64 X, .int .i64 Y] 128)) (eR N X Y :: L) := by
  subst hN; exact h.rat X Y
theorem Fr.ratAt {w0 w : World} {L : List Ent} (h : Fr w0 w L) (i : Nat) {b : Nat} {X Y : Int} (he : L[i]? = some (eR b X Y)) :
    w.cell? ⟨b, 0, .none⟩ = some (.int .i64 X) ∧ w.cell? ⟨b, 1, .none⟩ = some (.int .i64 Y) ∧ b < w.heap.size ∧ w0.heap.size ≤ b ∧ w.frozen? ⟨b, 0, .none⟩ = false ∧ w.frozen? ⟨b, 1, .none⟩ = false := by
  have hO := h.os.own _ (List.mem_of_getElem? he)
  have h1 := World.ownsRow.cellAt hO 0 (by decide)
  have h2 := World.ownsRow.cellAt hO 1 (by decide)
  have h3 := Ent.own.lt hO b rfl
  exact ⟨h1, h2, h3.2, h3.1, World.ownsRow.frozenAt hO 0, World.ownsRow.frozenAt hO 1⟩
theorem Fr.ratPut {w0 w : World} {L : List Ent} {b : Nat} {X Y : Int} (h : Fr w0 w (eR b X Y :: L)) (X' Y' : Int) :
    Fr w0 ((w.setCell ⟨b, 0, .none⟩ (.int .i64 X')).setCell ⟨b, 1, .none⟩ (.int .i64 Y')) (eR b X' Y' :: L) := (h.setInt 0 X').setInt 1 Y'

set_option maxRecDepth 100000 in
set_option maxHeartbeats 1000000 in
theorem urnCheck (l : List Int) (n : Nat) (a : Option Addr) (ca : Nat) (more : Int) (w : World) (h : Sa w a (ints l)) (hn : l.length = n) :
    Calls Try.prog 93 #[.slice a n ca, .int .i64 more] w fun e w' => e = .returned (.int .i64 (urnChk l more)) ∧ w = w' := by
  have HN := Lib.hid hn; have HS := Lib.hid h
  clear h
  have e2 : urnChk l more = if n < 1 ∨ 5 < n then 2 else if l.any (fun x => decide (x < 0 ∨ 12 < x)) then 1 else if usum l = 0 then 5 else if more < 0 ∨ 12 < more then 1 else 0 := by rw [← hn]; rfl
  by_cases hl : n < 1 ∨ 5 < n
  · rw [if_pos hl] at e2
    have E2 := Lib.hid e2
    clear e2 hn
    rcases hl with hl | hl
    · obtain rfl : n = 0 := by omega
      go_enter Try.func93, Try.ntmps93
      go_wp2_with fail
      go_ret
      exact ⟨by rw [E2.out]; rfl, rfl⟩
    · have d1 : decide ((n : Int) < 1) = false := decide_eq_false (by omega)
      have d2 : decide ((5 : Int) < (n : Int)) = true := decide_eq_true (by omega)
      go_enter Try.func93, Try.ntmps93
      go_wp2_with fail
      go_ret
      exact ⟨by rw [E2.out]; rfl, rfl⟩
  · rw [if_neg hl] at e2
    have E2 := Lib.hid e2
    have n1 : 1 ≤ n := by omega
    have n12 : n ≤ 5 := by omega
    have d1 : decide ((n : Int) < 1) = false := decide_eq_false (by omega)
    have d2 : decide ((5 : Int) < (n : Int)) = false := decide_eq_false (by omega)
    clear e2 hn hl
    go_enter Try.func93, Try.ntmps93
    go_wp2_with fail
    go_loop [5, 18] (fun s i => ∃ k : Nat, k ≤ n ∧ i = .int .i64 k ∧ s = .int .i64 (usum (l.take k)) ∧ Hid (∀ x ∈ l.take k, 0 ≤ x ∧ x ≤ 12)) (fun _ i => n - (intOf i).toNat)
    case atStart => exact ⟨0, by omega, rfl, rfl, Lib.hid (by simp)⟩
    case round =>
      obtain ⟨k, hk, rfl, rfl, HG⟩ := hrel
      have sb := usum_bd _ _ HG.out
      have hsl : (l.take k).length ≤ 5 := by rw [List.length_take]; omega
      obtain ⟨S, hS⟩ : ∃ S, usum (l.take k) = S := ⟨_, rfl⟩
      rw [hS] at sb
      have s1 : 0 ≤ S := sb.1
      have s2 : S ≤ 60 := by omega
      have HSS := Lib.hid hS
      rw [hS]
      clear sb hsl hS
      by_cases hlt : k < n
      · obtain ⟨b', off, rfl, hb, hc⟩ := HS.out.int k (by rw [HN.out]; exact hlt)
        have hsn := take_nth l k (by rw [HN.out]; exact hlt)
        have hmem := nth_mem l k (by rw [HN.out]; exact hlt)
        obtain ⟨x, hx⟩ : ∃ x, nth l k = x := ⟨_, rfl⟩
        rw [hx] at hc hsn hmem
        by_cases hbad : x < 0 ∨ 12 < x
        · have E3 : Hid (urnChk l more = 1) := Lib.hid (by rw [E2.out, if_pos (List.any_eq_true.2 ⟨x, hmem, by simpa using hbad⟩)])
          clear hx hmem hsn
          rcases hbad with hbad | hbad
          · have d3 : decide (x < 0) = true := decide_eq_true hbad
            go_wp2_with fail
            go_ret
            exact ⟨by rw [E3.out]; rfl, rfl⟩
          · have d3 : decide (x < 0) = false := decide_eq_false (by omega)
            have d4 : decide (12 < x) = true := decide_eq_true hbad
            go_wp2_with fail
            go_ret
            exact ⟨by rw [E3.out]; rfl, rfl⟩
        · have HG2 : Hid (∀ y ∈ l.take (k + 1), 0 ≤ y ∧ y ≤ 12) := Lib.hid fun y hy => by
            rw [hsn] at hy
            rcases List.mem_append.1 hy with hy | hy
            · exact HG.out y hy
            · rw [List.mem_singleton] at hy; rw [hy]; omega
          have HU : Hid (usum (l.take (k + 1)) = S + x) := Lib.hid (by rw [hsn, usum_snoc, HSS.out])
          have d3 : decide (x < 0) = false := decide_eq_false (by omega)
          have d4 : decide (12 < x) = false := decide_eq_false (by omega)
          have x1 : 0 ≤ x := by omega
          have x2 : x ≤ 12 := by omega
          clear hx hmem hsn HG hbad
          go_wp2_with fail
          exact ⟨⟨k + 1, by omega, by simp, by rw [HU.out], HG2⟩, by simp only [intOf]; omega⟩
      · have eS : usum l = S := by rw [← HSS.out, List.take_of_length_le (by rw [HN.out]; omega)]
        have E3 : urnChk l more = if usum l = 0 then 5 else if more < 0 ∨ 12 < more then 1 else 0 := by
          rw [E2.out, if_neg]
          intro hany
          obtain ⟨x, hx, hb⟩ := List.any_eq_true.1 hany
          have := HG.out x (by rw [List.take_of_length_le (by rw [HN.out]; omega)]; exact hx)
          simp at hb; omega
        rw [eS] at E3
        have H3 := Lib.hid E3
        clear HG E2 E3 eS HSS
        by_cases h0 : S = 0
        · subst h0
          go_wp2_with fail
          go_ret
          exact ⟨by rw [H3.out]; rfl, rfl⟩
        · have z0 : (S == 0) = false := beq_eq_false_iff_ne.2 h0
          by_cases hm : more < 0
          · have d3 : decide (more < 0) = true := decide_eq_true hm
            have H4 : Hid (urnChk l more = 1) := Lib.hid (by rw [H3.out, if_neg h0, if_pos (.inl hm)])
            go_wp2_with fail
            go_ret
            exact ⟨by rw [H4.out]; rfl, rfl⟩
          · have d3 : decide (more < 0) = false := decide_eq_false hm
            by_cases hm2 : 12 < more
            · have d4 : decide (12 < more) = true := decide_eq_true hm2
              have H4 : Hid (urnChk l more = 1) := Lib.hid (by rw [H3.out, if_neg h0, if_pos (.inr hm2)])
              go_wp2_with fail
              go_ret
              exact ⟨by rw [H4.out]; rfl, rfl⟩
            · have d4 : decide (12 < more) = false := decide_eq_false hm2
              have H4 : Hid (urnChk l more = 0) := Lib.hid (by rw [H3.out, if_neg h0, if_neg (by omega)])
              go_wp2_with fail
              go_ret
              exact ⟨by rw [H4.out]; rfl, rfl⟩
end Go.Proofs.Ytooghdnlaonkaaa
/- Contract of urn.Chance. -/
namespace Go.Proofs.Ytooghdnlaonkaaa
open Go.RowKit

theorem rat1_one : Rat1 1 1 := by unfold Rat1; decide
set_option maxRecDepth 100000 in
set_option maxHeartbeats 4000000 in
theorem urnChance (l : List Int) (n : Nat) (a : Option Addr) (ca : Nat) (more : Int) (ds : List Int) (m : Nat) (b : Option Addr) (cb : Nat) (w : World)
    (h : Sa w a (ints l)) (hn : l.length = n) (h' : Sa w b (ints ds)) (hm : ds.length = m) :
    Calls Try.prog 88 #[.slice a n ca, .int .i64 more, .slice b m cb] w fun e w' =>
      e = .returned (.tuple #[.agg #[.int .i64 (urnL l more ds).1, .int .i64 (urnL l more ds).2.1], .int .i64 (urnL l more ds).2.2]) ∧ Below w.heap.size w w' := by
  have HN := Lib.hid hn; have HS := Lib.hid h; have HM := Lib.hid hm; have HS' := Lib.hid h'
  have e2 : urnL l more ds = if urnChk l more ≠ 0 then (0, 0, urnChk l more) else if 12 < m then (0, 0, 2) else chn more l ds 1 1 := by rw [← hm]; rfl
  clear h h' hm
  have K0 := (Fr.start w).rat 0 0
  by_cases h0 : urnChk l more ≠ 0
  · rw [if_pos h0] at e2
    have E2 := Lib.hid e2; clear e2
    obtain ⟨er, her⟩ : ∃ er, urnChk l more = er := ⟨_, rfl⟩
    rw [her] at h0 E2
    have HE := Lib.hid her
    have z : (er != 0) = true := bne_iff_ne.2 h0
    clear her h0
    go_enter Try.func88, Try.ntmps88
    go_wp2_with fail
    refine (urnCheck l n _ _ more _ (K0.old HS.out) HN.out).mono ?_; rintro e w' ⟨rfl, rfl⟩
    rw [HE.out]
    go_wp2_with fail
    refine bodyPost_ret (v := .tuple #[.agg #[.int .i64 0, .int .i64 0], .int .i64 er]) ?_ rfl ⟨by rw [E2.out], ?_⟩
    · simp [results, Try.results88, go_sem]
    · exact K0.bel
  · rw [if_neg h0] at e2
    have hc : urnChk l more = 0 := by omega
    have HC := Lib.hid hc
    obtain ⟨ok, mo1, mo2⟩ := urnChk_ok hc
    rw [hn] at ok
    have OK := Lib.hid ok
    have n1 := ok.n1
    have n5 := ok.n5
    obtain ⟨ab, ao, rfl, _⟩ := HS.out (by rw [ints_len, HN.out]; omega)
    clear hc ok h0 hn
    by_cases hm12 : 12 < m
    · rw [if_pos hm12] at e2
      have E2 := Lib.hid e2; clear e2
      go_enter Try.func88, Try.ntmps88
      go_wp2_with fail
      refine (urnCheck l n _ _ more _ (K0.old HS.out) HN.out).mono ?_; rintro e w' ⟨rfl, rfl⟩
      rw [HC.out]
      go_wp2_with fail
      refine bodyPost_ret (v := .tuple #[.agg #[.int .i64 0, .int .i64 0], .int .i64 2]) ?_ rfl ⟨by rw [E2.out], ?_⟩
      · simp [results, Try.results88, go_sem]
      · exact K0.bel
    · rw [if_neg hm12] at e2
      have E2 := Lib.hid e2; clear e2
      have m12 : m ≤ 12 := by omega
      have dm : decide ((12 : Int) < (m : Int)) = false := decide_eq_false (by omega)
      clear hm12
      go_enter Try.func88, Try.ntmps88
      go_wp2_with fail
      refine (urnCheck l n _ _ more _ (K0.old HS.out) HN.out).mono ?_; rintro e w' ⟨rfl, rfl⟩
      rw [HC.out]
      have K1 := K0.lit' [] #[] rfl 0 rfl (by omega) 3 (w.heap.size + 1) (by simp)
      go_wp2_with (with_reducible refine at_slot 33 ?_; go_must (refine wpList_copyOf rfl _ _ rfl _ _ n ca l [eR w.heap.size 0 0] rfl K1 rfl (K1.old HS.out) (by rw [ints_len, HN.out]) (fun e => by cases e) (by omega) ?_); intro ad1 cp1 w1 hf1 hz1)
      have K2 := hf1.rat 1 1
      obtain ⟨g, rfl, -⟩ := hf1.open (by rw [ints_len, HN.out]; omega)
      obtain ⟨B, hB⟩ : ∃ B, w1.heap.size = B := ⟨_, rfl⟩
      rw [hB] at K2 ⊢
      clear hf1 K1 hz1 K0
      go_loopw [37] (fun i wr => ∃ (j : Nat) (hh : List Int) (P Q : Int), j ≤ m ∧ i = .int .i64 j ∧ Hid (chn more l ds 1 1 = chn more hh (ds.drop j) P Q) ∧ Hid (Rat1 P Q) ∧ Hid (UOk hh n (12 + 12 * j)) ∧ Fr w wr [eR B P Q, ⟨3, .slice (some ⟨g, 0, none⟩) n cp1, ints hh⟩, eR w.heap.size 0 0]) (fun i _ => m - (intOf i).toNat)
      case atStart => exact ⟨0, l, 1, 1, by omega, rfl, Lib.hid rfl, Lib.hid rat1_one, Lib.hid (by simpa using OK.out), K2⟩
      case round =>
        obtain ⟨j, hh, P, Q, hj, rfl, HE, HR, HU, hfr⟩ := hrel
        have HB := Lib.hid hB
        clear K2 hB
        by_cases hlt : j < m
        · obtain ⟨b', off, rfl, hb, hc⟩ := (hfr.old HS'.out).int j (by rw [HM.out]; exact hlt)
          have hdr : ds.drop j = nth ds j :: ds.drop (j + 1) := by rw [List.drop_eq_getElem_cons (by rw [HM.out]; exact hlt)]; simp [nth, HM.out, hlt]
          obtain ⟨k, hk⟩ : ∃ k, nth ds j = k := ⟨_, rfl⟩
          rw [hk] at hc hdr
          have HK := Lib.hid hk
          have e3 := HE.out
          rw [hdr, chn, HU.out.len] at e3
          obtain ⟨r0, r1, r2, r3, r4, r5⟩ := hfr.ratAt 2 rfl
          obtain ⟨q0, q1, q2, q3, q4, q5⟩ := hfr.ratAt 0 rfl
          clear hdr hk
          by_cases hbad : k < 0 ∨ (n : Int) ≤ k
          · rw [if_pos hbad] at e3
            have E3 := Lib.hid e3
            clear e3
            rcases hbad with hbad | hbad
            · have d3 : decide (k < 0) = true := decide_eq_true hbad
              go_wp2_with fail
              refine bodyPost_ret (v := .tuple #[.agg #[.int .i64 0, .int .i64 0], .int .i64 1]) ?_ rfl ⟨by rw [E2.out, E3.out], (hfr.bel.setCell (Nat.le_refl _) _).setCell (Nat.le_refl _) _⟩
              simp [results, Try.results88, go_sem, r0, r1]
            · have d3 : decide (k < 0) = false := decide_eq_false (by omega)
              have d4 : decide ((n : Int) ≤ k) = true := decide_eq_true hbad
              go_wp2_with fail
              refine bodyPost_ret (v := .tuple #[.agg #[.int .i64 0, .int .i64 0], .int .i64 1]) ?_ rfl ⟨by rw [E2.out, E3.out], (hfr.bel.setCell (Nat.le_refl _) _).setCell (Nat.le_refl _) _⟩
              simp [results, Try.results88, go_sem, r0, r1]
          · obtain ⟨K, rfl⟩ : ∃ K : Nat, k = K := ⟨k.toNat, by omega⟩
            have hKn : K < n := by omega
            rw [if_neg hbad, Int.toNat_natCast] at e3
            have d3 : decide ((K : Int) < 0) = false := decide_eq_false (by omega)
            have d4 : decide (n ≤ K) = false := decide_eq_false (by omega)
            clear hbad
            have hxk := HU.out.nth K hKn
            have hsum := HU.out.sum (by omega)
            have hpos := HU.out.pos
            obtain ⟨cK, hcK⟩ := (hfr.get 1 rfl).int K (by rw [HU.out.len]; exact hKn)
            obtain ⟨off', e, hgl, hck⟩ := hcK
            cases e
            rw [Nat.zero_add] at hck
            obtain ⟨x, hx⟩ : ∃ x, nth hh K = x := ⟨_, rfl⟩
            obtain ⟨S, hS⟩ : ∃ S, usum hh = S := ⟨_, rfl⟩
            have HX := Lib.hid hx
            have HSS := Lib.hid hS
            rw [hx, hS] at e3
            rw [hx] at hck hxk
            rw [hS] at hsum hpos
            have E3 := Lib.hid e3
            obtain ⟨x1, x2⟩ := hxk
            have HFR := Lib.hid hfr
            clear e3 hx hS hfr
            go_wp2_with fail
            go_loop [13, 52] (fun s i => ∃ t : Nat, t ≤ n ∧ i = .int .i64 t ∧ s = .int .i64 (usum (hh.take t))) (fun _ i => n - (intOf i).toNat)
            case atStart => exact ⟨0, by omega, rfl, rfl⟩
            case round =>
              obtain ⟨t, ht, rfl, rfl⟩ := hrel
              have tb := usum_bd (hh.take t) (12 + 12 * (j : Int)) (fun y hy => HU.out.bd y (List.mem_of_mem_take hy))
              have tl : (hh.take t).length ≤ 5 := by rw [List.length_take]; omega
              have tm : ((hh.take t).length : Int) * (12 + 12 * (j : Int)) ≤ 5 * (12 + 12 * (j : Int)) := Int.mul_le_mul_of_nonneg_right (by omega) (by omega)
              obtain ⟨U, hU⟩ : ∃ U, usum (hh.take t) = U := ⟨_, rfl⟩
              rw [hU] at tb
              have HUU := Lib.hid hU
              have u1 : 0 ≤ U := tb.1
              have u2 : U ≤ 780 := by omega
              rw [hU]
              clear tb tl tm hU
              by_cases htn : t < n
              · obtain ⟨g', o', e, hgl2, hct⟩ := (HFR.out.get 1 rfl).int t (by rw [HU.out.len]; exact htn)
                cases e
                rw [Nat.zero_add] at hct
                have hyt := HU.out.nth t htn
                have hst := take_nth hh t (by rw [HU.out.len]; exact htn)
                obtain ⟨y, hy⟩ : ∃ y, nth hh t = y := ⟨_, rfl⟩
                rw [hy] at hct hyt hst
                have HT : Hid (usum (hh.take (t + 1)) = U + y) := Lib.hid (by rw [hst, usum_snoc, HUU.out])
                obtain ⟨y1, y2⟩ := hyt
                clear hy hst
                go_wp2_with fail
                exact ⟨⟨t + 1, by omega, by simp, by rw [HT.out]⟩, by simp only [intOf]; omega⟩
              · have eU : U = S := by rw [← HUU.out, List.take_of_length_le (by rw [HU.out.len]; omega), HSS.out]
                subst eU
                have xs : x ≤ U := by
                  have := usum_ge hh (fun y hy => (HU.out.bd y hy).1) K (by rw [HU.out.len]; exact hKn)
                  rw [HX.out, HSS.out] at this; exact this
                have hfr := HFR.out
                have RP := Lib.hid (red_rat x U (by omega) (by omega))
                have RI : Hid (RedIs x U (redP x U) (redQ x U)) := Lib.hid ⟨rfl, rfl⟩
                obtain ⟨p1, hp1⟩ : ∃ z, redP x U = z := ⟨_, rfl⟩
                obtain ⟨p2, hp2⟩ : ∃ z, redQ x U = z := ⟨_, rfl⟩
                rw [hp1, hp2] at RP RI
                have HPP := Lib.hid (And.intro hp1 hp2)
                have e4 := E3.out
                rw [hp1, hp2] at e4
                have E4 := Lib.hid e4
                clear hp1 hp2 e4 E3 HUU
                go_wp2_with fail
                refine (make_fits x U p1 p2 _ (by omega) (by omega) RI.out).mono ?_; rintro e w3 ⟨rfl, hb3⟩
                have F3 := (hfr.keep hb3).rat p1 p2
                clear hfr hb3 HFR r0 r1 r2 r4 r5 q0 q1 q2 q4 q5 hck
                obtain ⟨s0, s1, s2, _, s4, s5⟩ := F3.ratAt 0 rfl
                obtain ⟨q0, q1, q2, _, q4, q5⟩ := F3.ratAt 1 rfl
                go_wp2_with fail
                refine (mul_any P Q p1 p2 _ HR.out RP.out).mono ?_; rintro e w4 ⟨X, Y, er, rfl, hl, hb4⟩
                have F4 := (F3.keep hb4).rat X Y
                clear s0 s1 s2 s4 s5 q0 q1 q2 q4 q5 F3 hb4
                obtain ⟨s0, s1, s2, _, s4, s5⟩ := F4.ratAt 0 rfl
                obtain ⟨q0, q1, q2, _, q4, q5⟩ := F4.ratAt 2 rfl
                obtain ⟨r0, r1, r2, _, r4, r5⟩ := F4.ratAt 4 rfl
                rcases hl with ⟨rfl, hr, _, h5, h6⟩ | ⟨rfl, rfl, rfl, hno⟩
                · have E5 : Hid (chn more l ds 1 1 = chn more (hh.set K (x + more)) (ds.drop (j + 1)) X Y) := Lib.hid (by
                    rw [E4.out, ← h5, ← h6, if_pos]
                    unfold Fits
                    rw [← h5, ← h6]
                    exact ⟨hr.2.1, hr.2.2.1, hr.2.2.2.1⟩)
                  have HR2 := Lib.hid hr
                  have HU2 : Hid (UOk (hh.set K (x + more)) n (12 + 12 * ((j + 1 : Nat) : Int))) := Lib.hid (by
                    have := HU.out.more K hKn more mo1 mo2
                    rw [HX.out] at this
                    rw [show (12 : Int) + 12 * ((j + 1 : Nat) : Int) = 12 + 12 * (j : Int) + 12 from by omega]
                    exact this)
                  have F5 := F4.tail.tail.swap
                  obtain ⟨g', e, _, hck, hzk⟩ := F5.openI K (by rw [HU.out.len]; exact hKn)
                  cases e
                  rw [HX.out] at hck
                  have hgB : g ≠ B := by
                    have := (List.pairwise_cons.1 F5.os.far).1 (eR B P Q) (by simp)
                    rcases this with h | h
                    · cases h
                    · exact fun e => h (by show some g = some B; rw [e])
                  have hBg : B ≠ g := fun e => hgB e.symm
                  have F6 := ((F5.swap.ratPut X Y).swap.setInt K (x + more)).swap
                  have HF6 := Lib.hid F6
                  clear hr h5 h6 F4 F5 F6 r0 r1 r2 r4 r5 E4
                  go_wp2_with fail
                  exact ⟨⟨j + 1, hh.set K (x + more), X, Y, by omega, by simp, E5, HR2, HU2, HF6.out⟩, by simp only [intOf]; omega⟩
                · have E5 : Hid (chn more l ds 1 1 = (0, 0, 2)) := Lib.hid (by rw [E4.out]; exact if_neg hno)
                  have E3 := E5
                  go_wp2_with fail
                  refine bodyPost_ret (v := .tuple #[.agg #[.int .i64 0, .int .i64 0], .int .i64 2]) ?_ rfl ⟨by rw [E2.out, E3.out], (F4.bel.setCell (Nat.le_refl _) _).setCell (Nat.le_refl _) _⟩
                  simp [results, Try.results88, go_sem, r0, r1]
        · obtain rfl : j = m := by omega
          obtain ⟨r0, r1, r2, r3, r4, r5⟩ := hfr.ratAt 2 rfl
          obtain ⟨q0, q1, q2, q3, q4, q5⟩ := hfr.ratAt 0 rfl
          have E3 : Hid (chn more l ds 1 1 = (P, Q, 0)) := Lib.hid (by rw [HE.out, List.drop_of_length_le (by rw [HM.out]; omega), chn])
          go_wp2_with fail
          refine bodyPost_ret (v := .tuple #[.agg #[.int .i64 P, .int .i64 Q], .int .i64 0]) ?_ rfl ⟨by rw [E2.out, E3.out], (hfr.bel.setCell (Nat.le_refl _) _).setCell (Nat.le_refl _) _⟩
          simp [results, Try.results88, go_sem, r0, r1]
end Go.Proofs.Ytooghdnlaonkaaa
