/- Several of my texts in one: Dsk6. -/
import Derived.Test.YtbolgfiafbhicaaDoorDF46
import Derived.Test.YtbolgfiafbhicaaDoorDF47
/- Contract of asked: sum; all of it. -/
namespace Go.Proofs.YtbolgfiafbhicaaDoor
open Go.RowKit

def eRd (b : Nat) (X Y : Int) : Ent := ⟨85, .slice (some ⟨b, 0, .none⟩) 2 2, ints [X, Y]⟩
theorem Fr.ratD {w0 w : World} {L : List Ent} (h : Fr w0 w L) (X Y : Int) : Fr w0 (w.alloc (.cells #[.int .i64 X, .int .i64 Y] 85)) (eRd w.heap.size X Y :: L) :=
  h.lit [X, Y] #[.int .i64 X, .int .i64 Y] rfl 2 rfl (by omega) 85
theorem Fr.ratAtD {w0 w : World} {L : List Ent} (h : Fr w0 w L) (i : Nat) {b : Nat} {X Y : Int} (he : L[i]? = some (eRd b X Y)) :
    w.cell? ⟨b, 0, .none⟩ = some (.int .i64 X) ∧ w.cell? ⟨b, 1, .none⟩ = some (.int .i64 Y) ∧ b < w.heap.size := by
  have hO := h.os.own _ (List.mem_of_getElem? he)
  have h1 := World.ownsRow.cellAt hO 0 (by show 0 < 2; omega)
  have h2 := World.ownsRow.cellAt hO 1 (by show 1 < 2; omega)
  exact ⟨h1, h2, (Ent.own.lt hO b rfl).2⟩
theorem Fr.ratPutD {w0 w : World} {L : List Ent} {b : Nat} {X Y : Int} (h : Fr w0 w (eRd b X Y :: L)) (X' Y' : Int) :
    Fr w0 ((w.setCell ⟨b, 0, .none⟩ (.int .i64 X')).setCell ⟨b, 1, .none⟩ (.int .i64 Y')) (eRd b X' Y' :: L) := (h.setInt 0 X').setInt 1 Y'
theorem sumO_eq (a b c d : Int) : sumO (some [a, b, c, d]) = if b = 0 then .error 5 else if d = 0 then .error 5 else addA (mkP a b * mkQ c d + mkP c d * mkQ a b) (mkQ a b * mkQ c d) := rfl
theorem makeU (x y : Int) (hx : 0 ≤ x ∧ x ≤ 999999) (hy : 0 ≤ y ∧ y ≤ 999999) : ∃ P Q e : Int, (∀ W, Calls Tryd.prog 39 #[.int .i64 x, .int .i64 y] W fun e' w' => e' = .returned (.tuple #[.agg #[.int .i64 P, .int .i64 Q], .int .i64 e]) ∧ Below W.heap.size W w') ∧
    ((e = 5 ∧ y = 0) ∨ (e = 0 ∧ y ≠ 0 ∧ Rat1 P Q ∧ mkP x y = P ∧ mkQ x y = Q)) := by
  by_cases h : y = 0
  · subst h
    exact ⟨0, 0, 5, fun W => make_zero x W (by omega), .inl ⟨rfl, rfl⟩⟩
  · exact ⟨_, _, 0, fun W => make_ok x y W (by omega) (by omega) h, .inr ⟨rfl, h, (mk_rat x y (by omega) (by omega) h).1, rfl, rfl⟩⟩
theorem four_of {p : List Int} (h : p.length = 4) : ∃ x y u v, p = [x, y, u, v] := by
  match p, h with
  | [x, y, u, v], _ => exact ⟨x, y, u, v, rfl⟩
set_option maxRecDepth 100000 in
set_option maxHeartbeats 16000000 in
theorem askSum (wd : ByteArray) (hw : wd.toList = [115, 117, 109]) (l : List ByteArray) (a : Option Addr) (cap : Nat) (w : World) (h : Sa w a (strV l)) (hn : l.length = 4) (hl : ∀ s ∈ l, s.size ≤ maxLen) (ht : TabW w) :
    Calls Tryd.prog 22 #[.string wd, .slice a 4 cap] w (AskSaid (sumA l) w) := by
  have hn2 := Lib.hid hn
  have HNS := Lib.hid (deskNums l 4 a cap w h hn (by omega) hl); have HT := Lib.hid ht
  have HLN := Lib.hid (fun p (hp : numsB l = some p) => numsB_bd hp)
  obtain ⟨R, hR⟩ : ∃ R, numsB l = R := ⟨_, rfl⟩
  have HA : Hid (sumA l = sumO R) := Lib.hid (by unfold sumA; rw [hR])
  rw [hR] at HNS HLN
  have g2 : ((4 : Int) == 4) = true := rfl
  clear h hn hl ht hR
  go_enter Tryd.func22, Tryd.ntmps22
  go_wp2_with fail
  refine HNS.out.mono ?_
  rintro e w1 (⟨p, ad, m, cp, rfl, rfl, hpm, hcp, hf1⟩ | ⟨rfl, rfl, hf1⟩)
  · have HB := Lib.hid (HLN.out p rfl)
    have hp2 : p.length = 4 ∨ p.length ≠ 4 := by omega
    rcases hp2 with hp2 | hp2
    · obtain ⟨x, y, u, v, rfl⟩ := four_of hp2
      obtain rfl : m = 4 := by rw [← hpm]; rfl
      have bx := HB.out.2 x (by simp)
      have bY := HB.out.2 y (by simp)
      have bu := HB.out.2 u (by simp)
      have bv := HB.out.2 v (by simp)
      obtain ⟨G, rfl, -, hGl, hcl, -⟩ := hf1.open (by simp [ints])
      have x0 := hcl 0 (by simp [ints])
      have x1 := hcl 1 (by simp [ints])
      have x2 := hcl 2 (by simp [ints])
      have x3 := hcl 3 (by simp [ints])
      simp only [ints, List.map_cons, List.map_nil, List.getElem?_cons_zero, List.getElem?_cons_succ] at x0 x1 x2 x3
      have HF1 := Lib.hid hf1
      have HX2 := Lib.hid x2; have HX3 := Lib.hid x3
      clear hf1 hcl hpm hp2 HB HLN HNS x2 x3
      obtain ⟨P1, Q1, e1, HM1, HE1⟩ := makeU x y bx bY
      obtain ⟨P2, Q2, e2, HM2, HE2⟩ := makeU u v bu bv
      have HM1 := Lib.hid HM1; have HE1 := Lib.hid HE1; have HM2 := Lib.hid HM2; have HE2 := Lib.hid HE2
      go_wp2_with fail
      go_cut [18, 19] from 18 to 130 (fun s18 s19 wx => ∃ B1 : Nat, s18 = .pointer (some ⟨B1, 0, none⟩) ∧ s19 = .int .i64 e1 ∧ Hid (Fr w wx [eRd B1 P1 Q1, ⟨3, .slice (some ⟨G, 0, none⟩) 4 cp, ints [x, y, u, v]⟩]))
      case first =>
        go_region_with (go_at_call 39; refine (HM1.out _).mono ?_; rintro e w2 ⟨rfl, hb⟩; have HBB := Lib.hid hb; obtain ⟨hbc, hbf⟩ := bcell hb; clear hb)
        all_goals
          clear x0 x1 hbc hbf
          go_wp2_with fail
          go_meet
          first
            | exact ⟨_, rfl, rfl, Lib.hid ((HF1.out.drew.keep HBB.out).ratD P1 Q1)⟩
            | exact ⟨_, rfl, rfl, Lib.hid (((HF1.out.ratD 0 0).drew.keep HBB.out).ratPutD P1 Q1)⟩
      case rest =>
      obtain ⟨B1, rfl, rfl, HF2⟩ := hcut
      clear x0 x1 HM1
      rcases HE1.out with ⟨rfl, rfl⟩ | ⟨rfl, hy, hr1, hp1, hq1⟩
      · have HO : Hid (sumA l = .error 5) := Lib.hid (by rw [HA.out, sumO_eq, if_pos rfl])
        clear HA
        go_wp2_with fail
        refine (mustE 5 (by decide) _).mono ?_; rintro e w3 ⟨rfl, rfl⟩
        go_wp2_with fail
        exact ⟨rfl, HF2.out.below, .inr ⟨_, HO.out, rfl⟩⟩
      have HA1 : Hid (sumA l = if v = 0 then .error 5 else addA (P1 * mkQ u v + mkP u v * Q1) (Q1 * mkQ u v)) := Lib.hid (by rw [HA.out, sumO_eq, if_neg hy, hp1, hq1])
      have HR1 := Lib.hid hr1
      clear HA hy hp1 hq1 hr1 HE1
      go_wp2_with fail
      refine (must0 _).mono ?_; rintro e w3 ⟨rfl, rfl⟩
      obtain ⟨_, e, -, hGl2, hcl, -⟩ := (HF2.out.swap).open (by simp [ints])
      cases e
      have x2 := hcl 2 (by simp [ints])
      have x3 := hcl 3 (by simp [ints])
      simp only [ints, List.map_cons, List.map_nil, List.getElem?_cons_zero, List.getElem?_cons_succ] at x2 x3
      clear hcl
      go_wp2_with fail
      rename_i wq
      go_cut [19, 20] from 19 to 142 (fun s19 s20 wx => ∃ B2 : Nat, s20 = .pointer (some ⟨B2, 0, none⟩) ∧ s19 = .int .i64 e2 ∧ Hid (Fr w wx [eRd B2 P2 Q2, eRd B1 P1 Q1]))
      case first =>
        have HF3 := Lib.hid (HF2.out.sub (M := [eRd B1 P1 Q1]) (by simp))
        go_region_with (go_at_call 39; refine (HM2.out _).mono ?_; rintro e w2 ⟨rfl, hb⟩; have HBB := Lib.hid hb; obtain ⟨hbc, hbf⟩ := bcell hb; clear hb)
        all_goals
          clear x2 x3 hbc hbf hGl2
          go_wp2_with fail
          go_meet
          first
            | exact ⟨_, rfl, rfl, Lib.hid ((HF3.out.drew.keep HBB.out).ratD P2 Q2)⟩
            | exact ⟨_, rfl, rfl, Lib.hid (((HF3.out.ratD 0 0).drew.keep HBB.out).ratPutD P2 Q2)⟩
      case rest =>
      obtain ⟨B2, rfl, rfl, HF3⟩ := hcut
      clear x2 x3 HM2 HF2
      rcases HE2.out with ⟨rfl, rfl⟩ | ⟨rfl, hv, hr2, hp2, hq2⟩
      · have HO : Hid (sumA l = .error 5) := Lib.hid (by rw [HA1.out, if_pos rfl])
        clear HA1
        go_wp2_with fail
        refine (mustE 5 (by decide) _).mono ?_; rintro e w3 ⟨rfl, rfl⟩
        go_wp2_with fail
        exact ⟨rfl, HF3.out.below, .inr ⟨_, HO.out, rfl⟩⟩
      have HA2 : Hid (sumA l = addA (P1 * Q2 + P2 * Q1) (Q1 * Q2)) := Lib.hid (by rw [HA1.out, if_neg hv, hp2, hq2])
      have HR2 := Lib.hid hr2
      clear HA1 hv hp2 hq2 hr2 HE2
      obtain ⟨y0, y1, -⟩ := HF3.out.ratAtD 0 rfl
      obtain ⟨y2, y3, -⟩ := HF3.out.ratAtD 1 rfl
      go_wp2_with fail
      refine (must0 _).mono ?_; rintro e w3 ⟨rfl, rfl⟩
      go_wp2_with fail
      refine (add_any P1 Q1 P2 Q2 _ HR1.out HR2.out).mono ?_; rintro e w4 ⟨P3, Q3, er, rfl, hx, hb⟩
      have HF4 := Lib.hid (HF3.out.below.keep hb)
      have HXX := Lib.hid hx
      clear hb hx y0 y1 y2 y3 HF3
      obtain ⟨N, hN⟩ : ∃ N, w4.heap.size = N := ⟨_, rfl⟩
      have hf5 := HF4.out.ratD P3 Q3
      rw [hN] at hf5
      have hN2 : (w4.alloc (.cells #[.int .i64 P3, .int .i64 Q3] 85)).heap.size = N + 1 := by simp [hN]
      have hf6 := hf5.lit' [P3, Q3] #[.int .i64 P3, .int .i64 Q3] rfl 2 rfl (by omega) 3 (N + 1) hN2
      have HF5 := Lib.hid hf5
      rcases HXX.out with ⟨rfl, hr3, -, hp3, hq3⟩ | ⟨rfl, rfl, rfl, hno⟩
      · have HO : Hid (sumA l = .ok (listB [P3, Q3])) := Lib.hid (by rw [HA2.out, addA, ← hp3, ← hq3, if_pos ⟨hr3.2.1, hr3.2.2.1, hr3.2.2.2.1⟩])
        have hq0 := hr3.1
        have hb1 := hr3.2.1
        have hb2 := hr3.2.2.1
        have hb3 := hr3.2.2.2.1
        have HL := Lib.hid (deskList [P3, Q3] 2 _ 2 _ (hf6.get 0 rfl) rfl (by omega) (fun z hz => by
          simp only [List.mem_cons, List.not_mem_nil, or_false] at hz
          rcases hz with rfl | rfl <;> omega) (HT.out.keep hf6.bel))
        have HF6 := Lib.hid hf6
        clear hf5 hf6 hr3 hp3 hq3 HXX HA2 hN2 hq0 hb1 hb2 hb3
        go_wp2_with fail
        refine (must0 _).mono ?_; rintro e w5 ⟨rfl, rfl⟩
        go_wp2_with fail
        refine HL.out.mono ?_; rintro e w6 ⟨rfl, hf7⟩
        have HF7 := Lib.hid (HF6.out.below.keep hf7.bel)
        clear hf7 HL
        go_wp2_with fail
        go_ret
        exact ⟨HF7.out, .inl ⟨_, HO.out, rfl⟩⟩
      · have HO : Hid (sumA l = .error 2) := Lib.hid (by rw [HA2.out, addA, if_neg hno])
        clear hf5 hf6 hno HXX HA2 hN2
        go_wp2_with fail
        refine (mustE 2 (by decide) _).mono ?_; rintro e w5 ⟨rfl, rfl⟩
        go_wp2_with fail
        exact ⟨rfl, HF5.out.below, .inr ⟨_, HO.out, rfl⟩⟩
    · exfalso
      have := HB.out.1
      rw [hn2.out] at this
      exact hp2 this
  · have HF1 := Lib.hid hf1
    have HO : Hid (sumA l = .error 10) := HA
    clear hf1 HNS HLN
    go_wp2_with fail
    exact ⟨rfl, HF1.out, .inr ⟨10, HO.out, rfl⟩⟩
theorem lst_eq (a : ByteArray) (l : List UInt8) : a.toList = l ↔ a = bs l := by
  rw [ByteArray.toList_eq]
  constructor
  · intro h; rw [← h, bs_of]
  · intro h; rw [h]; rfl
theorem askC (wd : ByteArray) (l : List ByteArray) (n : Nat) (a : Option Addr) (cap : Nat) (w : World) (h : Sa w a (strV l)) (hn : l.length = n) (hm : n ≤ 10000) (hl : ∀ s ∈ l, s.size ≤ maxLen) (ht : TabW w) :
    Calls Tryd.prog 22 #[.string wd, .slice a n cap] w (AskSaid (askR wd l) w) := by
  unfold askR
  by_cases h1 : wd = wRank
  · rw [if_pos h1]; exact askRank wd ((lst_eq _ _).2 h1) l n a cap w h hn hm hl ht
  rw [if_neg h1]
  by_cases h2 : wd = wOrder ∧ l.length = 2
  · rw [if_pos h2]
    obtain rfl : n = 2 := by omega
    exact askOrder wd ((lst_eq _ _).2 h2.1) l a cap w h hn hl ht
  rw [if_neg h2]
  by_cases h3 : wd = wTurned
  · rw [if_pos h3]; exact askTurn wd ((lst_eq _ _).2 h3) l n a cap w h hn hm hl ht
  rw [if_neg h3]
  by_cases h4 : wd = wShapes
  · rw [if_pos h4]; exact askShap wd ((lst_eq _ _).2 h4) l n a cap w h hn hm hl ht
  rw [if_neg h4]
  by_cases h5 : wd = wNest ∧ l.length = 2
  · rw [if_pos h5]
    obtain rfl : n = 2 := by omega
    exact askNest wd ((lst_eq _ _).2 h5.1) l a cap w h hn hl
  rw [if_neg h5]
  by_cases h6 : wd = wSum ∧ l.length = 4
  · rw [if_pos h6]
    obtain rfl : n = 4 := by omega
    exact askSum wd ((lst_eq _ _).2 h6.1) l a cap w h hn hl ht
  rw [if_neg h6]
  exact askNone wd n a cap w (fun e => h1 ((lst_eq _ _).1 e)) (fun e e2 => h2 ⟨(lst_eq _ _).1 e, by omega⟩) (fun e => h3 ((lst_eq _ _).1 e)) (fun e => h4 ((lst_eq _ _).1 e)) (fun e e2 => h5 ⟨(lst_eq _ _).1 e, by omega⟩) (fun e e2 => h6 ⟨(lst_eq _ _).1 e, by omega⟩)
end Go.Proofs.YtbolgfiafbhicaaDoor
