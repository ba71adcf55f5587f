/- Several of my texts in one: Cyc. -/
import Derived.Test.YtooghdnlaonkaaaPw05
import Derived.Test.YtooghdnlaonkaaaPw27
/- Contracts of perm.Cycles, perm.Sign. -/
namespace Go.Proofs.Ytooghdnlaonkaaa
open Go.RowKit

set_option maxRecDepth 100000 in
set_option maxHeartbeats 1000000 in
theorem insZeroF (w : World) :
    Calls Try.prog 163 #[.slice .none 0 0, .int .i64 0, .int .i64 0, .func (.func 99) #[] #[]] w fun e w' => e = .returned (.tuple #[]) ∧ w = w' := by
  go_enter Try.func163, Try.ntmps163
  go_wp2_with fail
  go_loop [8] (fun i => i = .int .i64 1) (fun _ => 0)
  case atStart => rfl
  case round =>
    subst hrel
    go_wp2_with fail
    go_end0
    exact ⟨rfl, rfl⟩
set_option maxRecDepth 100000 in
set_option maxHeartbeats 1000000 in
theorem pdqZeroF (L : Int) (w : World) :
    Calls Try.prog 139 #[.slice .none 0 0, .int .i64 0, .int .i64 0, .int .i64 L, .func (.func 99) #[] #[]] w fun e w' => e = .returned (.tuple #[]) ∧ w = w' := by
  go_enter Try.func139, Try.ntmps139
  go_wp2_with fail
  go_loop [1, 2, 3] (fun a b l => a = .int .i64 0 ∧ b = .int .i64 0) (fun _ _ _ => 0)
  case atStart => exact ⟨rfl, rfl⟩
  case round =>
    obtain ⟨rfl, rfl⟩ := hrel
    go_wp2_with fail
    refine (insZeroF _).mono ?_; rintro e w' ⟨rfl, rfl⟩
    go_wp2_with fail
    refine bodyPost_ret (results_none rfl _ _ _) rfl ?_
    exact ⟨rfl, rfl⟩
set_option maxRecDepth 100000 in
theorem sortZeroF (w : World) :
    Calls Try.prog 98 #[.slice .none 0 0, .func (.func 99) #[] #[]] w fun e w' => e = .returned (.tuple #[]) ∧ w = w' := by
  go_enter Try.func98, Try.ntmps98
  go_wp2_with fail
  refine (len_12F 0 (by omega) _).mono ?_; rintro e w' ⟨⟨L, rfl⟩, rfl⟩
  go_wp2_with fail
  refine (pdqZeroF _ _).mono ?_; rintro e w' ⟨rfl, rfl⟩
  go_wp2_with fail
  go_end0
  exact ⟨rfl, rfl⟩

def CycSaid (p : List Int) (w : World) (e : Ending) (w' : World) : Prop :=
  ∃ (ad : Option Addr) (cp : Nat) (out : List Nat), e = .returned (.tuple #[.slice ad out.length cp, .int .i64 0]) ∧ CycOk p out ∧ Fr w w' [⟨3, .slice ad out.length cp, ints (cycL out)⟩]
set_option maxRecDepth 100000 in
set_option maxHeartbeats 4000000 in
theorem cycles_any (p : List Int) (n : Nat) (a : Option Addr) (cap : Nat) (w : World) (h : Sa w a (ints p)) (hn : p.length = n) (hp : IsP p) (h10 : n ≤ 10) :
    Calls Try.prog 51 #[.slice a n cap] w (CycSaid p w) := by
  have HS := Lib.hid h; have HN := Lib.hid hn; have HP := Lib.hid hp
  clear h hn
  go_enter Try.func51, Try.ntmps51
  go_wp2_with fail
  refine (permChk p n _ _ _ HS.out HN.out HP.out h10).mono ?_; rintro e w1 ⟨rfl, F1⟩
  go_wp2_with fail
  have F2 := F1.new 138 #[.bool false, .bool false, .bool false, .bool false, .bool false, .bool false, .bool false, .bool false, .bool false, .bool false] (snB fun _ => false) rfl 10 rfl (by omega)
  obtain ⟨B, hB⟩ : ∃ B, w1.heap.size = B := ⟨_, rfl⟩
  rw [hB] at F2 ⊢
  clear hp F1
  go_loopw [6, 17] (fun o i wr => ∃ (k : Nat) (ad : Option Addr) (cp N : Nat) (S : Nat → Bool) (out : List Nat), k ≤ n ∧ i = .int .i64 k ∧ o = .slice ad N cp ∧ N ≤ 10 ∧ Hid (N = out.length ∧ (N = 0 → ad = .none ∧ cp = 0)) ∧ Hid (OutI p k S out) ∧
    Fr w wr [⟨3, .slice ad N cp, ints (natI out)⟩, ⟨138, .slice (some ⟨B, 0, .none⟩) 10 10, snB S⟩]) (fun _ i _ => n - (intOf i).toNat)
  case atStart => exact ⟨0, .none, 0, 0, fun _ => false, [], by omega, rfl, rfl, by omega, Lib.hid ⟨rfl, fun _ => ⟨rfl, rfl⟩⟩, Lib.hid (OutI.zero p), F2.nilSlice _⟩
  case round =>
    obtain ⟨k, ad, cp, N, S, out, hk, rfl, rfl, hN10, HNO, HO, hfr⟩ := hrel
    clear F2
    by_cases hlt : k < n
    · have hkp : k < p.length := by rw [HN.out]; exact hlt
      have HKP := Lib.hid hkp
      have HOL := Lib.hid (ol_spec HP.out hkp)
      clear hkp
      have e1 : (0 : Int) ≤ (k : Int) := by omega
      have e2 : (k : Int) < (n : Int) := by omega
      by_cases hS : S k = true
      · have HSK := Lib.hid (OutI.skip HP.out HKP.out HO.out hS)
        obtain ⟨g, e, _, _, hcell, hz⟩ := hfr.swap.open (by rw [snB_len]; omega)
        cases e
        have c1 := hcell k (by rw [snB_len]; omega)
        rw [snB_get _ _ (by omega), hS] at c1
        have d2 : (k : Int) < 10 := by omega
        clear hcell hz hS
        go_wp2_with fail
        go_loopw [8, 9] (fun n k' wr' => n = .int .i64 0 ∧ k' = .int .i64 k ∧ wr' = wr) (fun _ _ _ => 0)
        case atStart => exact ⟨rfl, rfl, rfl⟩
        case round =>
          obtain ⟨rfl, rfl, rfl⟩ := hrel
          go_wp2_with fail
          exact ⟨⟨k + 1, ad, cp, N, S, out, by omega, by simp, rfl, hN10, HNO, HSK, hfr⟩, by simp only [intOf]; omega⟩
      · have hSf : S k = false := by simpa using hS
        clear hS
        have HT := Lib.hid (OutI.turn HP.out HKP.out HO.out hSf)
        have HNEW : Hid (∀ m, m < ol p k → Sm p k S m (itP p m k) = false) := Lib.hid fun m hm => OutI.new HP.out HKP.out HO.out hSf hm
        have HBK := Lib.hid (Sm_back (S := S) HP.out HKP.out)
        have HF := Lib.hid hfr
        clear hfr hSf
        go_wp2_with fail
        go_loopw [8, 9] (fun n' k' wr => ∃ (m v : Nat), m ≤ ol p k ∧ m ≤ 10 ∧ v < 10 ∧ v < n ∧ n' = .int .i64 m ∧ k' = .int .i64 v ∧ Hid (v = itP p m k) ∧ Fr w wr [⟨3, .slice ad N cp, ints (natI out)⟩, ⟨138, .slice (some ⟨B, 0, .none⟩) 10 10, snB (Sm p k S m)⟩]) (fun n' _ _ => ol p k - (intOf n').toNat)
        case atStart => exact ⟨0, k, by omega, by omega, by omega, hlt, rfl, rfl, Lib.hid rfl, by rw [Sm_zero]; exact HF.out⟩
        case round =>
          obtain ⟨m, v, hm, hm10, hv10, hvn, rfl, rfl, HV, hfr⟩ := hrel
          obtain ⟨g, e, _, _, hcell, hz⟩ := hfr.swap.open (by rw [snB_len]; omega)
          cases e
          have c1 := hcell v (by rw [snB_len]; exact hv10)
          rw [snB_get _ _ hv10] at c1
          have z1 := hz v
          clear hcell hz
          have d1 : (0 : Int) ≤ (v : Int) := by omega
          have d2 : (v : Int) < 10 := by omega
          have d3 : (v : Int) < (n : Int) := by omega
          by_cases hlt2 : m < ol p k
          · have hnw := HNEW.out m hlt2
            rw [← HV.out] at hnw
            rw [hnw] at c1
            obtain ⟨b0, off, rfl, hb0, c2⟩ := (hfr.old HS.out).int v (by rw [HN.out]; exact hvn)
            have hb0' : b0 < w.heap.size := by
              obtain ⟨b', o', e', hb', _⟩ := HS.out.int v (by rw [HN.out]; exact hvn)
              cases e'; exact hb'
            have hBB : w.heap.size ≤ B := by
              have := (Ent.own.lt (hfr.os.own _ (List.mem_cons_of_mem _ List.mem_cons_self)) B rfl).1
              exact this
            have nb : b0 ≠ B := by omega
            have F3 := Fr.swap (hfr.swap.set v (.bool true))
            have hset : (snB (Sm p k S m)).set v (.bool true) = snB (Sm p k S (m + 1)) := by
              rw [snB_set _ _ hv10, HV.out, Sm_succ]
            rw [hset] at F3
            have HF3 := Lib.hid F3
            have hpv := pf_lt HP.out (show v < p.length by rw [HN.out]; exact hvn)
            rw [HN.out] at hpv
            have hx : nth p v = ((pf p v : Nat) : Int) := ((HP.out.at v (by rw [HN.out]; exact hvn)).2).symm
            have HV2 : Hid (pf p v = itP p (m + 1) k) := Lib.hid (by rw [HV.out]; rfl)
            rw [hx] at c2
            obtain ⟨u, hu⟩ : ∃ u, pf p v = u := ⟨_, rfl⟩
            rw [hu] at c2 hpv HV2
            have hm1 : m + 1 ≤ 10 := by have := HOL.out.2.1; rw [HN.out] at this; omega
            clear hfr F3 hset hx hu hnw hb0' hBB
            go_wp2_with fail
            exact ⟨⟨m + 1, u, by omega, hm1, by omega, hpv, by simp, rfl, HV2, HF3.out⟩, by simp only [intOf]; omega⟩
          · have hmo : m = ol p k := by omega
            have hbk := HBK.out
            rw [← hmo, ← HV.out] at hbk
            rw [hbk] at c1
            have h1 := HOL.out.1
            have m0 : 0 < m := by omega
            have HT2 := HT.out
            rw [← hmo] at HT2
            have HT3 := Lib.hid HT2
            have HF3 := Lib.hid hfr
            clear z1 hbk HT2 HT hmo hfr h1
            go_wp2_with (with_reducible refine at_slot 38 ?_; go_must (refine wpList_pushInt rfl _ _ rfl ad N cp _ m _ rfl HF3.out rfl ?_ ?_); rotate_left; intro ad' cp' w2 hf2 hlt2)
            · go_wp2_with fail
              have hle := HT3.out.le
              rw [List.length_append, List.length_singleton, ← HNO.out.1] at hle
              exact ⟨⟨k + 1, ad', cp', N + 1, _, out ++ [m], by omega, by simp, rfl, by omega, Lib.hid ⟨by rw [HNO.out.1]; simp, fun e => by omega⟩, HT3, by rw [show natI (out ++ [m]) = natI out ++ [(m : Int)] from by simp [natI]]; exact hf2⟩, by simp only [intOf]; omega⟩
            · omega
    · obtain rfl : k = n := by omega
      have hok : CycOk p out := OutI.ok (by have := HO.out; rwa [← HN.out] at this)
      have HOK := Lib.hid hok
      obtain rfl : N = out.length := HNO.out.1
      have HZ := Lib.hid HNO.out.2
      have F5 := hfr.sub (M := [⟨3, .slice ad out.length cp, ints (natI out)⟩]) (by simp)
      have HF5 := Lib.hid F5
      have HBD : Hid (∀ v ∈ natI out, 0 ≤ v ∧ v ≤ 1000) := Lib.hid fun v hv => by
        unfold natI at hv
        obtain ⟨x, hx, rfl⟩ := List.mem_map.1 hv
        have := hok.pos x hx
        have h2 := HN.out
        omega
      obtain ⟨M, hM⟩ : ∃ M, out.length = M := ⟨_, rfl⟩
      have HM := Lib.hid hM
      rw [hM] at HF5 hN10 HZ ⊢
      clear hok HNO F5 hfr hM
      rcases Nat.eq_zero_or_pos M with h0 | h0
      · subst h0
        have h0' : out = [] := List.eq_nil_of_length_eq_zero HM.out
        subst h0'
        obtain ⟨rfl, rfl⟩ := HZ.out rfl
        go_wp2_with fail
        refine (sortZeroF _).mono ?_; rintro e w' ⟨rfl, rfl⟩
        go_wp2_with fail
        go_ret2
        exact ⟨.none, 0, [], rfl, HOK.out, HF5.out⟩
      · obtain ⟨g, e, -, -, -⟩ := HF5.out.openI 0 (by rw [natI_len, HM.out]; exact h0)
        subst e
        go_wp2_with fail
        refine (slSortF (natI out) M cp g _ HF5.out (by omega) (by omega) HBD.out).mono ?_; rintro e w3 ⟨rfl, hf⟩
        have HF6 := Lib.hid hf
        clear hf
        go_wp2_with fail
        go_ret2
        refine ⟨some ⟨g, 0, .none⟩, cp, out, by rw [HM.out]; rfl, HOK.out, ?_⟩
        have e : cycL out = insSd (natI out) M := by unfold cycL; rw [natI_len, HM.out]
        rw [e, HM.out]; exact HF6.out
end Go.Proofs.Ytooghdnlaonkaaa
