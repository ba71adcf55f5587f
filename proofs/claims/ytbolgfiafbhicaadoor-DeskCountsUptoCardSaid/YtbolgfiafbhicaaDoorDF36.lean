/- Several of my texts in one: PartT. -/
import Derived.Test.YtbolgfiafbhicaaDoorDF05
/- Contracts of parts.Check (where it says OK) and parts.Turned. -/
namespace Go.Proofs.YtbolgfiafbhicaaDoor
open Go.RowKit

def sumI (l : List Int) : Int := l.foldl (· + ·) 0
theorem sumI_snoc (l : List Int) (x : Int) : sumI (l ++ [x]) = sumI l + x := by simp [sumI]
def PartOk (l : List Int) : Prop := ∀ k, k < l.length → 1 ≤ nth l k ∧ nth l k ≤ 40 ∧ (0 < k → nth l k ≤ nth l (k - 1)) ∧ sumI (l.take k) + nth l k ≤ 40 ∧ (k : Int) ≤ sumI (l.take k)
theorem PartOk.len {l : List Int} (h : PartOk l) : l.length ≤ 40 := by
  rcases Nat.lt_or_ge 40 l.length with h1 | h1
  · have := h 40 h1; omega
  · exact h1

set_option maxHeartbeats 1000000 in
theorem partChk (l : List Int) (n : Nat) (a : Option Addr) (cap : Nat) (w : World) (h : Sa w a (ints l)) (hn : l.length = n) (hp : PartOk l) :
    Calls Tryd.prog 65 #[.slice a n cap] w fun e w' => e = .returned (.int .i64 0) ∧ w = w' := by
  have hl := hp.len
  rw [hn] at hl
  have HN := Lib.hid hn; have HS := Lib.hid h; have HP := Lib.hid hp
  clear hn h hp
  go_enter Tryd.func65, Tryd.ntmps65
  go_wp2_with fail
  go_loop [3, 8] (fun s i => ∃ k : Nat, k ≤ n ∧ i = .int .i64 k ∧ s = .int .i64 (sumI (l.take k))) (fun _ i => n - (intOf i).toNat)
  case atStart => exact ⟨0, by omega, rfl, rfl⟩
  case round =>
    obtain ⟨k, hk, rfl, rfl⟩ := hrel
    by_cases hlt : k < n
    · obtain ⟨b, off, rfl, hb, hc⟩ := HS.out.int k (by rw [HN.out]; exact hlt)
      obtain ⟨p1, p2, p3, p4, p5⟩ := HP.out k (by rw [HN.out]; exact hlt)
      have hs := Lib.hid (show sumI (l.take (k + 1)) = sumI (l.take k) + nth l k from by rw [take_nth l k (by rw [HN.out]; exact hlt), sumI_snoc])
      have hprev : 0 < k → ∃ y, w.cell? ⟨b, off + (k - 1), none⟩ = some (.int .i64 y) ∧ nth l k ≤ y := by
        intro h0
        obtain ⟨b', off', e, _, hc'⟩ := HS.out.int (k - 1) (by rw [HN.out]; omega)
        cases e
        exact ⟨_, hc', p3 h0⟩
      clear p3
      obtain ⟨x, hx⟩ : ∃ x, nth l k = x := ⟨_, rfl⟩
      obtain ⟨S, hS⟩ : ∃ S, sumI (l.take k) = S := ⟨_, rfl⟩
      rw [hx] at hc p1 p2 p4 hprev
      rw [hS] at p4 p5 ⊢
      have HX := Lib.hid hx; have HSS := Lib.hid hS
      clear hx hS
      rcases Nat.eq_zero_or_pos k with h0 | h0
      · subst h0
        rw [Nat.add_zero] at hc
        go_wp2_with fail
        exact ⟨⟨1, by omega, rfl, by rw [hs.out, HSS.out, HX.out]⟩, by simp only [intOf]; omega⟩
      · obtain ⟨y, hc', hxy⟩ := hprev h0
        go_wp2_with fail
        exact ⟨⟨k + 1, by omega, rfl, by rw [hs.out, HSS.out, HX.out]⟩, by simp only [intOf]; omega⟩
    · go_wp2_with fail
      go_ret
      exact ⟨rfl, rfl⟩

/-- the first k of them one more -/
def incr (k : Nat) (P : List Int) : List Int := (List.range P.length).map fun j => nth P j + if j < k then 1 else 0
theorem incr_len (k : Nat) (P : List Int) : (incr k P).length = P.length := by simp [incr]
theorem incr_nth (k : Nat) (P : List Int) (j : Nat) (h : j < P.length) : nth (incr k P) j = nth P j + if j < k then 1 else 0 := by simp [incr, nth, h]
theorem incr_zero (P : List Int) : incr 0 P = P := ext_nth (incr_len 0 P) (fun i hi => by rw [incr_len] at hi; rw [incr_nth 0 P i hi, if_neg (by omega)]; omega)
theorem incr_succ (k : Nat) (P : List Int) (h : k < P.length) : (incr k P).set k (nth P k + 1) = incr (k + 1) P := by
  refine ext_nth (by rw [List.length_set, incr_len, incr_len]) (fun i hi => ?_)
  rw [List.length_set, incr_len] at hi
  rw [nth_set _ _ _ _ (by rw [incr_len]; exact h), incr_nth (k + 1) P i hi]
  by_cases e : i = k
  · subst e; rw [if_pos rfl, if_pos (by omega)]
  · rw [if_neg e, incr_nth k P i hi]
    by_cases e2 : i < k
    · rw [if_pos e2, if_pos (by omega)]
    · rw [if_neg e2, if_neg (by omega)]
def pad (n : Nat) (P : List Int) : List Int := P ++ List.replicate (n - P.length) 0
def turnStep (out : List Int) (x : Int) : List Int := incr x.toNat (pad x.toNat out)
def trn (l : List Int) : List Int := l.foldl turnStep []
theorem trn_snoc (l : List Int) (x : Int) : trn (l ++ [x]) = turnStep (trn l) x := by simp [trn]
theorem pad_len (n : Nat) (P : List Int) : (pad n P).length = max P.length n := by simp [pad]; omega
theorem pad_succ (P : List Int) (t : Nat) : P ++ List.replicate (t + 1) 0 = (P ++ List.replicate t 0) ++ [0] := by rw [List.replicate_succ', List.append_assoc]
theorem turnStep_bd (P : List Int) (x : Int) (m : Int) (h : ∀ j, j < P.length → 0 ≤ nth P j ∧ nth P j ≤ m) (hm : 0 ≤ m) :
    ∀ j, j < (turnStep P x).length → 0 ≤ nth (turnStep P x) j ∧ nth (turnStep P x) j ≤ m + 1 := by
  intro j hj
  unfold turnStep at *
  rw [incr_len] at hj
  rw [incr_nth _ _ j hj]
  have : 0 ≤ nth (pad x.toNat P) j ∧ nth (pad x.toNat P) j ≤ m := by
    unfold pad
    by_cases h1 : j < P.length
    · have := h j h1
      unfold nth at this ⊢
      rw [List.getD_eq_getElem?_getD, List.getElem?_append_left h1, ← List.getD_eq_getElem?_getD]
      exact this
    · have : nth (P ++ List.replicate (x.toNat - P.length) 0) j = 0 := by
        unfold nth
        rw [List.getD_eq_getElem?_getD, List.getElem?_append_right (by omega), List.getElem?_replicate]
        split <;> rfl
      omega
  split <;> omega
theorem trn_bd (l : List Int) (hp : PartOk l) : ∀ k, k ≤ l.length → (trn (l.take k)).length ≤ 40 ∧ ∀ j, j < (trn (l.take k)).length → 0 ≤ nth (trn (l.take k)) j ∧ nth (trn (l.take k)) j ≤ k
  | 0, _ => ⟨by simp [trn], fun j hj => by simp [trn] at hj⟩
  | k + 1, hk => by
    obtain ⟨h1, h2⟩ := trn_bd l hp k (by omega)
    obtain ⟨p1, p2, -⟩ := hp k (by omega)
    rw [take_nth l k (by omega), trn_snoc]
    refine ⟨?_, fun j hj => ?_⟩
    · unfold turnStep
      rw [incr_len, pad_len]; omega
    · have := turnStep_bd (trn (l.take k)) (nth l k) k h2 (by omega) j hj
      omega

def OneSlI (l : List Int) (err : Int) (w : World) (e : Ending) (w' : World) : Prop :=
  ∃ ad cp, e = .returned (.tuple #[.slice ad l.length cp, .int .i64 err]) ∧ l.length ≤ cp ∧ Fr w w' [⟨3, .slice ad l.length cp, ints l⟩]

set_option maxHeartbeats 2000000 in
theorem partTurned (l : List Int) (n : Nat) (a : Option Addr) (cap : Nat) (w : World) (h : Sa w a (ints l)) (hn : l.length = n) (hp : PartOk l) :
    Calls Tryd.prog 36 #[.slice a n cap] w (OneSlI (trn l) 0 w) := by
  have hl := hp.len
  rw [hn] at hl
  have HN := Lib.hid hn; have HS := Lib.hid h; have HP := Lib.hid hp
  clear hn h hp
  go_enter Tryd.func36, Tryd.ntmps36
  go_wp2_with fail
  refine (partChk l n _ _ _ HS.out HN.out HP.out).mono ?_; rintro e w' ⟨rfl, rfl⟩
  go_wp2_with fail
  go_loopw [5, 16] (fun o i wr => ∃ (k m : Nat) (ad : Option Addr) (cp : Nat), k ≤ n ∧ i = .int .i64 k ∧ o = .slice ad m cp ∧ Hid ((trn (l.take k)).length = m) ∧ Fr w wr [⟨3, .slice ad m cp, ints (trn (l.take k))⟩]) (fun _ i _ => n - (intOf i).toNat)
  case atStart => exact ⟨0, 0, none, 0, by omega, rfl, rfl, Lib.hid rfl, (Fr.start w).nilSlice _⟩
  case round =>
    obtain ⟨k, m, ad, cp, hk, rfl, rfl, HM, hfr⟩ := hrel
    by_cases hlt : k < n
    · obtain ⟨b, off, rfl, hb, hc⟩ := (hfr.old HS.out).int k (by rw [HN.out]; exact hlt)
      obtain ⟨p1, p2, -⟩ := HP.out k (by rw [HN.out]; exact hlt)
      have B := trn_bd l HP.out k (by rw [HN.out]; exact hk)
      have m40 : m ≤ 40 := by rw [← HM.out]; exact B.1
      have B2 := Lib.hid B.2
      have hs := Lib.hid (show trn (l.take (k + 1)) = turnStep (trn (l.take k)) (nth l k) from by rw [take_nth l k (by rw [HN.out]; exact hlt), trn_snoc])
      obtain ⟨x, hx⟩ : ∃ x : Nat, nth l k = x := ⟨(nth l k).toNat, by omega⟩
      rw [hx] at hc p1 p2
      have HX := Lib.hid hx
      clear hx B
      generalize trn (l.take k) = P at *
      go_wp2_with fail
      obtain ⟨wo, rfl⟩ : ∃ wo : World, wo = wr := ⟨_, rfl⟩
      have HF0 := Lib.hid hfr; clear hfr
      go_loopw [5] (fun o wr => ∃ (t : Nat) (ad : Option Addr) (cp : Nat), (t = 0 ∨ m + t ≤ x) ∧ o = .slice ad (m + t) cp ∧ Fr w wr [⟨3, .slice ad (m + t) cp, ints (P ++ List.replicate t 0)⟩]) (fun o _ => match o with | .slice _ c _ => x - c | _ => 0)
      case atStart => exact ⟨0, ad, cp, .inl rfl, rfl, by simpa using HF0.out⟩
      case round =>
        obtain ⟨t, ad, cp, ht, rfl, hfr⟩ := hrel
        by_cases hx : m + t < x
        · go_wp2_with (at_builtin; go_must (refine wpList_pushInt rfl _ _ rfl ad (m + t) cp (P ++ List.replicate t 0) 0 [] rfl hfr rfl ?_ ?_); rotate_left; intro ad' cp' w2 hf2 hlt2)
          · rw [← pad_succ] at hf2
            exact ⟨⟨t + 1, ad', cp', by omega, rfl, hf2⟩, by simp only; omega⟩
          · omega
        · have hP : P ++ List.replicate t 0 = pad x P := by
            unfold pad
            rw [HM.out, show x - m = t from by omega]
          rw [hP] at hfr
          have hlen : (pad x P).length = m + t := by rw [pad_len, HM.out]; omega
          have hxm : x ≤ m + t := by omega
          generalize m + t = M at *
          have HPL := Lib.hid hlen
          have HB : Hid (∀ j, j < M → 0 ≤ nth (pad x P) j ∧ nth (pad x P) j ≤ 40) := Lib.hid fun j hj => by
            unfold pad
            by_cases h1 : j < P.length
            · have := B2.out j h1
              unfold nth at this ⊢
              rw [List.getD_eq_getElem?_getD, List.getElem?_append_left h1, ← List.getD_eq_getElem?_getD]
              omega
            · have : nth (P ++ List.replicate (x - P.length) 0) j = 0 := by
                unfold nth
                rw [List.getD_eq_getElem?_getD, List.getElem?_append_right (by omega), List.getElem?_replicate]
                split <;> rfl
              omega
          have hs2 := Lib.hid (show trn (l.take (k + 1)) = incr x (pad x P) from by rw [hs.out, HX.out]; rfl)
          clear hP hlen ht HM hs B2 HF0 hx
          generalize pad x P = R at *
          go_wp2_with fail
          obtain ⟨wo, rfl⟩ : ∃ wo : World, wo = wr := ⟨_, rfl⟩
          have HF0 := Lib.hid hfr; clear hfr
          go_loopw [28] (fun i wr => ∃ j : Nat, j ≤ x ∧ i = .int .i64 j ∧ Fr w wr [⟨3, .slice ad M cp, ints (incr j R)⟩]) (fun i _ => x - (intOf i).toNat)
          case atStart => exact ⟨0, by omega, rfl, by rw [incr_zero]; exact HF0.out⟩
          case round =>
            obtain ⟨j, hj, rfl, hfr⟩ := hrel
            by_cases hlt2 : j < x
            · obtain ⟨g, rfl, hg1, hg2, hcg, hz⟩ := hfr.open (by rw [ints_len, incr_len, HPL.out]; omega)
              have c1 := hcg j (by rw [ints_len, incr_len, HPL.out]; omega)
              rw [ints_get _ j (by rw [incr_len, HPL.out]; omega), incr_nth j R j (by rw [HPL.out]; omega), if_neg (by omega), Int.add_zero] at c1
              have z1 := hz j
              obtain ⟨b1, b2⟩ := HB.out j (by omega)
              have F2 := hfr.setInt j (nth R j + 1)
              rw [incr_succ j R (by rw [HPL.out]; omega)] at F2
              clear hcg hz
              generalize nth R j = y at *
              have e1 : (0 : Int) ≤ (j : Int) := by omega
              have e2 : (j : Int) < (M : Int) := by omega
              go_wp2_with fail
              go_roundw
              case rel => exact ⟨j + 1, by omega, by go_num, F2⟩
              case measure => simp only [intOf]; omega
            · obtain rfl : j = x := by omega
              go_wp2_with fail
              exact ⟨⟨k + 1, M, ad, cp, by omega, by simp, rfl, Lib.hid (by rw [hs2.out, incr_len, HPL.out]), by rw [hs2.out]; exact hfr⟩, by simp only [intOf]; omega⟩
    · go_wp2_with fail
      go_ret2
      have hkn : l.take k = l := List.take_of_length_le (by rw [HN.out]; omega)
      have hm := HM.out
      rw [hkn] at hfr hm
      subst hm
      exact ⟨ad, cp, rfl, hfr.cap, hfr⟩
end Go.Proofs.YtbolgfiafbhicaaDoor
