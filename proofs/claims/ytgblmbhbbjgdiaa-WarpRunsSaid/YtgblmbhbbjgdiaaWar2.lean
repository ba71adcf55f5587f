/- Contracts of package warp: next and turn. -/
import Derived.Test.YtgblmbhbbjgdiaaWar
import Derived.Test.YtgblmbhbbjgdiaaWarM2
namespace Go.Proofs.Ytgblmbhbbjgdiaa
open Go.RowKit

set_option maxRecDepth 100000 in
set_option maxHeartbeats 4000000 in
theorem warNext (L : List Rn) (n : Nat) (a : Option Addr) (ca : Nat) (w : World) (h : Sa w a (rns L)) (ok : RnOk L n 504000) (n8 : n ≤ 8) :
    Calls Try.prog 49 #[.slice a n ca] w fun e w' => e = .returned (.int .i64 (besW L n)) ∧ Below w.heap.size w w' := by
  have HS := Lib.hid h; have HK := Lib.hid ok
  clear h ok
  go_enter Try.func49, Try.ntmps49
  go_wp2_with fail
  go_loopw [3, 4, 10] (fun s3 s4 i wr => ∃ (k : Nat) (B M : Int), k ≤ n ∧ i = .int .i64 k ∧ s3 = .int .i64 B ∧ s4 = .int .i64 M ∧ Hid (besW L k = B) ∧ Hid (leastW L k = M) ∧ Hid (Fr w wr [])) (fun _ _ i _ => n - (intOf i).toNat)
  case atStart => exact ⟨0, -1, 0, by omega, rfl, rfl, rfl, Lib.hid rfl, Lib.hid rfl, Lib.hid (Fr.start w)⟩
  case round =>
    obtain ⟨k, B, M, hk, rfl, rfl, rfl, HB, HM, HF⟩ := hrel
    by_cases hlt : k < n
    · obtain ⟨b', off, rfl, hb, c0, c1, c2, c3, c4⟩ := (HF.out.old HS.out).rnA k (by rw [HK.out.len]; exact hlt)
      have hok := HK.out.ok k hlt
      have hy := next_yes L k
      have hno := next_no L k
      rw [HB.out, HM.out] at hy hno
      unfold eW at hy hno
      obtain ⟨⟨sh, wa, th, ah, ps⟩, hr⟩ : ∃ r, rnA L k = r := ⟨_, rfl⟩
      rw [hr] at c0 c1 c2 c3 c4 hy hno hok
      simp only at c0 c1 c2 c3 c4 hy hno hok
      obtain ⟨-, -, w1, w2, p1, p2⟩ := hok
      have e1 : (0 : Int) ≤ (k : Int) := by omega
      have e2 : (k : Int) < (n : Int) := by omega
      clear hr
      cases th
      · obtain ⟨h1, h2⟩ := hno (.inl rfl)
        have H1 := Lib.hid h1; have H2 := Lib.hid h2
        clear hy hno h1 h2
        go_wp2_with fail
        exact ⟨⟨k + 1, B, M, by omega, by simp, rfl, rfl, H1, H2, Lib.hid (HF.out.alloc _)⟩, by simp only [intOf]; omega⟩
      · cases ah
        · rw [if_neg (by simp)] at hy hno
          by_cases hB : B < 0
          · obtain ⟨h1, h2⟩ := hy rfl (.inl hB)
            have H1 := Lib.hid h1; have H2 := Lib.hid h2
            have f1 : decide (B < 0) = true := decide_eq_true hB
            clear hy hno h1 h2
            go_wp2_with fail
            exact ⟨⟨k + 1, k, ps, by omega, by simp, rfl, rfl, H1, H2, Lib.hid (HF.out.alloc _)⟩, by simp only [intOf]; omega⟩
          · have f1 : decide (B < 0) = false := decide_eq_false hB
            by_cases hM : ps < M
            · obtain ⟨h1, h2⟩ := hy rfl (.inr hM)
              have H1 := Lib.hid h1; have H2 := Lib.hid h2
              have f2 : decide (ps < M) = true := decide_eq_true hM
              clear hy hno h1 h2
              go_wp2_with fail
              exact ⟨⟨k + 1, k, ps, by omega, by simp, rfl, rfl, H1, H2, Lib.hid (HF.out.alloc _)⟩, by simp only [intOf]; omega⟩
            · obtain ⟨h1, h2⟩ := hno (.inr ⟨by omega, by omega⟩)
              have H1 := Lib.hid h1; have H2 := Lib.hid h2
              have f2 : decide (ps < M) = false := decide_eq_false hM
              clear hy hno h1 h2
              go_wp2_with fail
              exact ⟨⟨k + 1, B, M, by omega, by simp, rfl, rfl, H1, H2, Lib.hid (HF.out.alloc _)⟩, by simp only [intOf]; omega⟩
        · rw [if_pos rfl] at hy hno
          by_cases hB : B < 0
          · obtain ⟨h1, h2⟩ := hy rfl (.inl hB)
            have H1 := Lib.hid h1; have H2 := Lib.hid h2
            have f1 : decide (B < 0) = true := decide_eq_true hB
            clear hy hno h1 h2
            go_wp2_with fail
            exact ⟨⟨k + 1, k, ps - wa, by omega, by simp, rfl, rfl, H1, H2, Lib.hid (HF.out.alloc _)⟩, by simp only [intOf]; omega⟩
          · have f1 : decide (B < 0) = false := decide_eq_false hB
            by_cases hM : ps - wa < M
            · obtain ⟨h1, h2⟩ := hy rfl (.inr hM)
              have H1 := Lib.hid h1; have H2 := Lib.hid h2
              have f2 : decide (ps - wa < M) = true := decide_eq_true hM
              clear hy hno h1 h2
              go_wp2_with fail
              exact ⟨⟨k + 1, k, ps - wa, by omega, by simp, rfl, rfl, H1, H2, Lib.hid (HF.out.alloc _)⟩, by simp only [intOf]; omega⟩
            · obtain ⟨h1, h2⟩ := hno (.inr ⟨by omega, by omega⟩)
              have H1 := Lib.hid h1; have H2 := Lib.hid h2
              have f2 : decide (ps - wa < M) = false := decide_eq_false hM
              clear hy hno h1 h2
              go_wp2_with fail
              exact ⟨⟨k + 1, B, M, by omega, by simp, rfl, rfl, H1, H2, Lib.hid (HF.out.alloc _)⟩, by simp only [intOf]; omega⟩
    · obtain rfl : k = n := by omega
      go_wp2_with fail
      go_ret
      exact ⟨by rw [HB.out]; rfl, HF.out.bel⟩

theorem run_max2W (ts : Array TypeId) (t : TypeId) (x y : Int) (w : World) : Sem.run Try.prog (Builtin.max_ ts t #[.int .i64 x, .int .i64 y]) w = .ok (.int .i64 (max x y)) w := by
  simp only [Builtin.max_, List.foldlM_cons, List.foldlM_nil, Builtin.max2, pure_bind]
  rw [show (if x < y then y else x) = max x y from by omega]
  rfl
def TurnSaid (w0 : World) (ad : Option Addr) (L : List Rn) (LL : List Ent) (e : Ending) (w' : World) : Prop := e = .returned (.tuple #[]) ∧ FB w0 w' 86 ad (rns L) LL
set_option maxRecDepth 100000 in
set_option maxHeartbeats 8000000 in
theorem warTurn {w0 : World} (L : List Rn) (x : Tu) (n : Nat) (ad : Option Addr) (ca : Nat) (LL : List Ent) (w : World) (hF : FB w0 w 86 ad (rns L) LL) (ok : RnOk L n 504000) (n8 : n ≤ 8) (hx : 0 ≤ x.who ∧ x.who < n) (hk : 1 ≤ x.kind ∧ x.kind ≤ 4) :
    Calls Try.prog 48 #[.slice ad n ca, .agg #[.int .i64 x.t, .int .i64 x.who, .int .i64 x.kind]] w (TurnSaid w0 ad (turnR L x) LL) := by
  obtain ⟨t, who, kind⟩ := x
  simp only at hx hk
  obtain ⟨j, rfl⟩ : ∃ j : Nat, who = j := ⟨who.toNat, by omega⟩
  have hj : j < n := by omega
  have hjL : j < L.length := by rw [ok.len]; exact hj
  have h0 : 0 < (rns L).length := by rw [rns_len]; omega
  obtain ⟨g, rfl, hg, hgl, hcs, hfz⟩ := hF.open h0
  have key : ∀ i, i < 5 → w.cell? ⟨g, j * 5 + i, none⟩ = (rnC (rnA L j))[i]? := fun i hi => by
    rw [hcs (j * 5 + i) (by rw [rns_len]; omega), rns_get L j i hjL hi]
  have c2 := key 2 (by omega)
  have c3 := key 3 (by omega)
  have c4 := key 4 (by omega)
  have f2 := hfz (j * 5 + 2)
  have f3 := hfz (j * 5 + 3)
  have f4 := hfz (j * 5 + 4)
  obtain ⟨r, hr⟩ : ∃ r, rnA L j = r := ⟨_, rfl⟩
  have T1 := turn1 L t j; have T3 := turn3 L t j; have T4 := turn4 L t j
  have T2a := turn2a L t j; have T2b := turn2b L t j n ok.len; have T2c := turn2c L t j n ok.len
  have hS := set_th L j r hjL hr
  have hS3 := set_ah L j r hjL hr
  have hS4 := set_ps L j r hjL hr
  rw [hr] at c2 c3 c4 T1 T3 T4 T2a T2b T2c
  have hbx := fun o => hF.alloc o
  have e1 : (0 : Int) ≤ (j : Int) := by omega
  have e2 : (j : Int) < (n : Int) := by omega
  have HB := Lib.hid hbx
  clear hcs key hfz hbx
  have hkk : kind = 1 ∨ kind = 2 ∨ kind = 3 ∨ kind = 4 := by omega
  clear hk hx
  rcases hkk with rfl | rfl | rfl | rfl
  · have HT := Lib.hid T1; have HS := Lib.hid hS
    clear T1 T2a T2b T2c T3 T4 hS hS3 hS4
    go_enter Try.func48, Try.ntmps48
    go_wp2_with fail
    go_end0
    refine ⟨rfl, ?_⟩
    rw [HT.out, ← HS.out false]
    exact (hF.set h0 _ _).alloc _
  · have HT2a := Lib.hid T2a; have HT2b := Lib.hid T2b; have HT2c := Lib.hid T2c; have HS := Lib.hid hS; have HS4 := Lib.hid hS4
    have HK := Lib.hid ok; have HR := Lib.hid hr
    clear T1 T2a T2b T2c T3 T4 hS hS3 hS4 ok hr
    obtain ⟨sh, wa, th, ah, ps⟩ := r
    replace c2 : w.cell? ⟨g, j * 5 + 2, none⟩ = some (.bool th) := c2
    replace c4 : w.cell? ⟨g, j * 5 + 4, none⟩ = some (.int .i64 ps) := c4
    simp only at HT2a HT2b HT2c
    cases th
    · have hmax := fun (x y : Int) W => run_max2W #[3, 3] 3 x y W
      clear c3 f3
      go_enter Try.func48, Try.ntmps48
      go_wp2_with fail
      have HF1 := Lib.hid (HB.out (.cells #[.int .i64 t, .int .i64 (j : Int), .int .i64 2] 57))
      go_loopw [5, 6, 30] (fun s5 s6 i wr => ∃ (k : Nat) (A : Bool) (M : Int), k ≤ n ∧ i = .int .i64 k ∧ s6 = .bool A ∧ s5 = .int .i64 M ∧ Hid (anyR L k = A) ∧ Hid (lstR L k = M) ∧ 
        Hid (FB w0 wr 86 (some ⟨g, 0, none⟩) (rns L) LL) ∧ Hid (Below (w.heap.size + 1) (w.alloc (.cells #[.int .i64 t, .int .i64 (j : Int), .int .i64 2] 57)) wr)) (fun _ _ i _ => n - (intOf i).toNat)
      case atStart => exact ⟨0, false, 0, by omega, rfl, rfl, rfl, Lib.hid rfl, Lib.hid rfl, HF1, Lib.hid (Below.refl _ _)⟩
      case round =>
        obtain ⟨k, A, M, hk, rfl, rfl, rfl, HA, HM, HF, HW⟩ := hrel
        by_cases hlt : k < n
        · obtain ⟨_, _, e, hb, d0, d1, d2, d3, d4⟩ := HF.out.sa.rnA k (by rw [HK.out.len]; exact hlt)
          cases e
          have hok := HK.out.ok k hlt
          have hy := any_yes L k
          have hno := any_no L k
          rw [HA.out, HM.out] at hy hno
          obtain ⟨⟨sh', wa', th', ah', ps'⟩, hr⟩ : ∃ r, rnA L k = r := ⟨_, rfl⟩
          rw [hr] at d0 d1 d2 d3 d4 hy hno hok
          simp only at d0 d1 d2 d3 d4 hy hno hok
          rw [Nat.zero_add] at d0 d1 d2 d3 d4
          have e3 : (0 : Int) ≤ (k : Int) := by omega
          have e4 : (k : Int) < (n : Int) := by omega
          clear hr
          cases th'
          · obtain ⟨h1, h2⟩ := hno (.inl rfl)
            have H1 := Lib.hid h1; have H2 := Lib.hid h2
            clear hy hno h1 h2 hok
            go_wp2_with fail
            exact ⟨⟨k + 1, A, M, by omega, by simp, rfl, rfl, H1, H2, Lib.hid (HF.out.alloc _), Lib.hid (HW.out.alloc (by have := HW.out.size; simp at this; omega) _)⟩, by simp only [intOf]; omega⟩
          · cases A
            · obtain ⟨h1, h2⟩ := hy rfl (.inl rfl)
              have H1 := Lib.hid h1; have H2 := Lib.hid h2
              clear hy hno h1 h2 hok
              go_wp2_with fail
              exact ⟨⟨k + 1, true, ps', by omega, by simp, rfl, rfl, H1, H2, Lib.hid (HF.out.alloc _), Lib.hid (HW.out.alloc (by have := HW.out.size; simp at this; omega) _)⟩, by simp only [intOf]; omega⟩
            · by_cases hM : ps' < M
              · obtain ⟨h1, h2⟩ := hy rfl (.inr hM)
                have H1 := Lib.hid h1; have H2 := Lib.hid h2
                have g2 : decide (ps' < M) = true := decide_eq_true hM
                clear hy hno h1 h2 hok
                go_wp2_with fail
                exact ⟨⟨k + 1, true, ps', by omega, by simp, rfl, rfl, H1, H2, Lib.hid (HF.out.alloc _), Lib.hid (HW.out.alloc (by have := HW.out.size; simp at this; omega) _)⟩, by simp only [intOf]; omega⟩
              · obtain ⟨h1, h2⟩ := hno (.inr ⟨rfl, by omega⟩)
                have H1 := Lib.hid h1; have H2 := Lib.hid h2
                have g2 : decide (ps' < M) = false := decide_eq_false hM
                clear hy hno h1 h2 hok
                go_wp2_with fail
                exact ⟨⟨k + 1, true, M, by omega, by simp, rfl, rfl, H1, H2, Lib.hid (HF.out.alloc _), Lib.hid (HW.out.alloc (by have := HW.out.size; simp at this; omega) _)⟩, by simp only [intOf]; omega⟩
        · obtain rfl : k = n := by omega
          obtain ⟨_, e, _, hgl2, hcs, hfz⟩ := HF.out.open h0
          cases e
          have key : ∀ i, i < 5 → wr.cell? ⟨g, j * 5 + i, none⟩ = (rnC (rnA L j))[i]? := fun i hi => by
            rw [hcs (j * 5 + i) (by rw [rns_len]; omega), rns_get L j i hjL hi]
          rw [HR.out] at key
          have c2' : wr.cell? ⟨g, j * 5 + 2, none⟩ = some (.bool false) := key 2 (by omega)
          have c4' : wr.cell? ⟨g, j * 5 + 4, none⟩ = some (.int .i64 ps) := key 4 (by omega)
          have f2' := hfz (j * 5 + 2)
          have f4' := hfz (j * 5 + 4)
          clear hcs hfz key
          cases A
          · go_wp2_with fail
            go_end0
            refine ⟨rfl, ?_⟩
            rw [HT2c.out trivial HA.out, ← HS.out true]
            exact HF.out.set h0 _ _
          · go_wp2_with fail
            go_end0
            refine ⟨rfl, ?_⟩
            rw [HT2b.out trivial HA.out, HM.out]
            have F3 := HF.out.set h0 (j * 5 + 4) (.int .i64 (max ps M))
            rw [HS4.out (max ps M)] at F3
            have F4 := F3.set (by rw [rns_len, List.length_set]; omega) (j * 5 + 2) (.bool true)
            rw [set_th (L.set j ⟨sh, wa, false, ah, max ps M⟩) j ⟨sh, wa, false, ah, max ps M⟩ (by rw [List.length_set]; exact hjL) (by rw [rnA_set _ _ _ _ hjL, if_pos rfl]), List.set_set] at F4
            exact F4
    · clear c3 f3
      go_enter Try.func48, Try.ntmps48
      go_wp2_with fail
      refine bodyPost_ret (results_none rfl _ _ _) rfl ?_
      refine ⟨rfl, ?_⟩
      rw [HT2a.out trivial]
      exact HB.out _
  · have HT := Lib.hid T3; have HS := Lib.hid hS3
    clear T1 T2a T2b T2c T3 T4 hS hS3 hS4
    go_enter Try.func48, Try.ntmps48
    go_wp2_with fail
    go_end0
    refine ⟨rfl, ?_⟩
    rw [HT.out, ← HS.out true]
    exact (hF.set h0 _ _).alloc _
  · have HT := Lib.hid T4; have HS := Lib.hid hS3
    clear T1 T2a T2b T2c T3 T4 hS hS3 hS4
    go_enter Try.func48, Try.ntmps48
    go_wp2_with fail
    go_end0
    refine ⟨rfl, ?_⟩
    rw [HT.out, ← HS.out false]
    exact (hF.set h0 _ _).alloc _
end Go.Proofs.Ytgblmbhbbjgdiaa
