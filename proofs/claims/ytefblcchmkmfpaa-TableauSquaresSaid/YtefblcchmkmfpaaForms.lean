/- Contract of castkeep.forms: all sums of a number, the greatest numbers first. -/
import Derived.Test.YtefblcchmkmfpaaArr3
namespace Go.Proofs.Ytefblcchmkmfpaa
open Go.RowKit

def fL : Nat → Nat → Nat → List (List Int)
  | 0, _, _ => [[]]
  | f + 1, n, most => if n = 0 then [[]] else (List.range (min n most)).flatMap fun j => (fL f (n - (min n most - j)) (min n most - j)).map fun r => (((min n most - j : Nat) : Int) :: r)
theorem fL_succ (f n most : Nat) : fL (f + 1) n most = if n = 0 then [[]] else (List.range (min n most)).flatMap fun j => (fL f (n - (min n most - j)) (min n most - j)).map fun r => (((min n most - j : Nat) : Int) :: r) := rfl
theorem fL_zero (f m : Nat) : fL f 0 m = [[]] := by cases f <;> simp [fL]
def cL : Nat → Nat → Nat → Nat
  | 0, _, _ => 1
  | f + 1, n, most => if n = 0 then 1 else ((List.range (min n most)).map fun j => cL f (n - (min n most - j)) (min n most - j)).sum
theorem cL_len : ∀ f n m, (fL f n m).length = cL f n m
  | 0, _, _ => rfl
  | f + 1, n, m => by
    rw [fL_succ, cL]
    by_cases h : n = 0
    · rw [if_pos h, if_pos h]; rfl
    · rw [if_neg h, if_neg h, List.length_flatMap]
      congr 1
      apply List.map_congr_left
      intro j _
      rw [List.length_map, cL_len f]
theorem cL_tab : ∀ n, n < 17 → ∀ m, m < 17 → cL n n m ≤ 1000 := by decide +kernel
theorem flat_congr {α β : Type} (l : List α) (f g : α → List β) (h : ∀ a ∈ l, f a = g a) : l.flatMap f = l.flatMap g := by
  rw [List.flatMap_def, List.flatMap_def, List.map_congr_left h]
theorem fL_two : ∀ f g n most, n ≤ f → n ≤ g → fL f n most = fL g n most := by
  intro f
  induction f with
  | zero => intro g n most h _; obtain rfl : n = 0 := by omega
            rw [fL_zero, fL_zero]
  | succ f ih =>
    intro g n most h hg
    rcases Nat.eq_zero_or_pos n with h0 | h0
    · subst h0; rw [fL_zero, fL_zero]
    · obtain ⟨g, rfl⟩ : ∃ k, g = k + 1 := ⟨g - 1, by omega⟩
      rw [fL_succ, fL_succ, if_neg (by omega), if_neg (by omega)]
      refine flat_congr _ _ _ fun j hj => ?_
      rw [List.mem_range] at hj
      rw [ih g _ _ (by omega) (by omega)]
theorem fL_fuel (f n most : Nat) (h : n ≤ f) : fL f n most = fL n n most := fL_two f n n most h (Nat.le_refl _)
/-- what has been collected when the first j of the greatest numbers are done -/
def fDone (n most j : Nat) : List (List Int) := (List.range j).flatMap fun j => (fL (n - (min n most - j)) (n - (min n most - j)) (min n most - j)).map fun r => (((min n most - j : Nat) : Int) :: r)
theorem fDone_succ (n most j : Nat) : fDone n most (j + 1) = fDone n most j ++ (fL (n - (min n most - j)) (n - (min n most - j)) (min n most - j)).map fun r => (((min n most - j : Nat) : Int) :: r) := by
  simp [fDone, List.range_succ]
theorem fL_done (n most : Nat) (h : 0 < n) : fL n n most = fDone n most (min n most) := by
  obtain ⟨f, rfl⟩ : ∃ f, n = f + 1 := ⟨n - 1, by omega⟩
  rw [fL_succ, if_neg (by omega)]
  unfold fDone
  refine flat_congr _ _ _ fun j hj => ?_
  rw [List.mem_range] at hj
  rw [fL_fuel f _ _ (by omega)]
theorem fDone_mono (n most : Nat) : ∀ k j, j ≤ k → (fDone n most j).length ≤ (fDone n most k).length
  | 0, j, h => by obtain rfl : j = 0 := by omega
                  exact Nat.le_refl _
  | k + 1, j, h => by
    by_cases e : j = k + 1
    · rw [e]; exact Nat.le_refl _
    · rw [fDone_succ, List.length_append]
      have := fDone_mono n most k j (by omega)
      omega
theorem fDone_len (n most j : Nat) (h0 : 0 < n) (hn : n ≤ 16) (hm : most ≤ 16) (hj : j ≤ min n most) : (fDone n most j).length ≤ 1000 := by
  have h1 := fDone_mono n most _ j hj
  rw [← fL_done n most h0, cL_len] at h1
  have := cL_tab n (by omega) most (by omega)
  omega

theorem fL_rows : ∀ f n m r, r ∈ fL f n m → n ≤ f → r.length ≤ n
  | 0, n, m, r, h, hf => by rw [fL] at h; simp at h; subst h; simp
  | f + 1, n, m, r, h, hf => by
    rw [fL_succ] at h
    by_cases h0 : n = 0
    · rw [if_pos h0] at h; simp at h; subst h; simp
    · rw [if_neg h0, List.mem_flatMap] at h
      obtain ⟨j, hj, h⟩ := h
      obtain ⟨q, hq, rfl⟩ := List.mem_map.1 h
      rw [List.mem_range] at hj
      have := fL_rows f _ _ q hq (by omega)
      simp; omega
theorem re_new (ad : Option Addr) (cp : Nat) (x : Int) (l : List Int) : (⟨3, .slice ad (1 + l.length) cp, ints [x] ++ ints l⟩ : Ent) = re (ad, cp, x :: l) := by
  simp [re, rv, ints, Nat.add_comm]
theorem rv_new (ad : Option Addr) (cp : Nat) (x : Int) (l : List Int) : Value.slice ad (1 + l.length) cp = rv (ad, cp, x :: l) := by simp [rv, Nat.add_comm]
def FormsSaid (F : List (List Int)) (w : World) (e : Ending) (w' : World) : Prop :=
  ∃ (ad : Option Addr) (N cp : Nat) (R : List Rw), e = .returned (.slice ad N cp) ∧ R.length = N ∧ R.map (fun p => p.2.2) = F ∧ Fr w w' (⟨25, .slice ad N cp, R.map rv⟩ :: R.map re)

set_option maxHeartbeats 4000000 in
theorem forms_any (n : Nat) : n ≤ 16 → ∀ (most : Nat) (w : World), most ≤ 16 →
    Calls Try.prog 15 #[.int .i64 n, .int .i64 most] w (FormsSaid (fL n n most) w) := by
  induction n using Nat.strongRecOn with
  | _ n ih =>
  intro hn most w hm
  have IH := Lib.hid ih; clear ih
  rcases Nat.eq_zero_or_pos n with h0 | h0
  · subst h0
    go_enter Try.func15, Try.ntmps15
    go_wp2_with fail
    go_ret
    refine ⟨_, 1, 1, [(.none, 0, [])], rfl, rfl, by rw [fL_zero]; rfl, ?_⟩
    exact ((Fr.start w).nilSlice 3).new 25 #[.slice .none 0 0] _ rfl 1 rfl (by omega)
  · obtain ⟨mn, hmn⟩ : ∃ mn, min n most = mn := ⟨_, rfl⟩
    have HMIN := Lib.hid (run_min2 #[3, 3] 3 n most mn (by omega) (by omega) (by omega))
    have HMN := Lib.hid hmn
    have mnn : mn ≤ n := by omega
    have mnm : mn ≤ most := by omega
    clear hmn
    have hne : ((n : Int) == 0) = false := by simp; omega
    go_enter Try.func15, Try.ntmps15
    have hmin := HMIN.out
    go_wp2_with fail
    clear hmin hne
    go_loopw [5, 6] (fun s5 s6 wr => ∃ (j x N : Nat) (R : List Rw) (ad : Option Addr) (cp : Nat), j + x = mn ∧ s6 = .int .i64 x ∧ s5 = .slice ad N cp ∧ Hid (R.length = N) ∧ Hid (R.map (fun p => p.2.2) = fDone n most j) ∧ Fr w wr (⟨25, .slice ad N cp, R.map rv⟩ :: R.map re)) (fun _ x _ => (intOf x).toNat)
    case atStart => exact ⟨0, mn, 0, [], .none, 0, by omega, rfl, rfl, Lib.hid rfl, Lib.hid rfl, (Fr.start w).nilSlice _⟩
    case round =>
      obtain ⟨j, x, N, R, ad, cp, hjx, rfl, rfl, HN, HR, hfr⟩ := hrel
      rcases Nat.eq_zero_or_pos x with hx | hx
      · subst hx
        go_wp2_with fail
        go_ret
        refine ⟨ad, N, cp, R, rfl, HN.out, ?_, hfr⟩
        rw [HR.out, fL_done n most h0, HMN.out, show j = mn from by omega]
      · go_wp2_with fail
        rw [show (n : Int) - (x : Int) = ((n - x : Nat) : Int) from by omega]
        refine (IH.out (n - x) (by omega) (by omega) x _ (by omega)).mono ?_; rintro e w2 ⟨ad2, N2, cp2, R2, rfl, hN2, hR2, hf⟩
        have F2 := hfr.call hf
        have HN2 := Lib.hid hN2; have HR2 := Lib.hid hR2
        have F3 := F2.perm (M := ⟨25, .slice ad N cp, R.map rv⟩ :: (R.map re ++ (⟨25, .slice ad2 N2 cp2, R2.map rv⟩ :: R2.map re))) List.perm_append_comm
        have HF3 := Lib.hid F3
        clear hfr hf F2 F3 hN2 hR2
        go_wp2_with fail
        have hlj := fDone_succ n most j
        rw [show min n most - j = x from by have := HMN.out; omega] at hlj
        have HLJ := Lib.hid hlj
        have blen := fDone_len n most (j + 1) h0 hn hm (by have := HMN.out; omega)
        have N2e : (fL (n - x) (n - x) x).length = N2 := by rw [← HR2.out, List.length_map, HN2.out]
        rw [hlj, List.length_append, List.length_map, N2e] at blen
        have HN2E := Lib.hid N2e
        have HGL := Lib.hid (fun r hr => fL_rows (n - x) (n - x) x r hr (Nat.le_refl _))
        clear hlj N2e
        generalize fL (n - x) (n - x) x = G at *
        obtain ⟨wo, rfl⟩ : ∃ wo : World, wo = w2 := ⟨_, rfl⟩
        go_loopw [5, 25] (fun s5 s25 wr => ∃ (t N' : Nat) (Rt : List Rw) (ad' : Option Addr) (cp' : Nat), t ≤ N2 ∧ s25 = .int .i64 t ∧ s5 = .slice ad' N' cp' ∧ Hid (Rt.length = N') ∧ Hid (Rt.map (fun p => p.2.2) = fDone n most j ++ (G.take t).map fun r => ((x : Nat) : Int) :: r) ∧
          Fr w wr (⟨25, .slice ad' N' cp', Rt.map rv⟩ :: (Rt.map re ++ (⟨25, .slice ad2 N2 cp2, R2.map rv⟩ :: R2.map re)))) (fun _ s25 _ => N2 - (intOf s25).toNat)
        case atStart => exact ⟨0, N, R, ad, cp, by omega, rfl, rfl, HN, Lib.hid (by rw [HR.out]; simp), HF3.out⟩
        case round =>
          obtain ⟨t, N', Rt, ad', cp', ht, rfl, rfl, HN', HRt, hfr⟩ := hrel
          clear HF3
          by_cases hlt : t < N2
          · have hN'b : N' ≤ 1000 := by
              rw [← HN'.out, ← List.length_map (f := fun p : Rw => p.2.2), HRt.out, List.length_append, List.length_map, List.length_take, HN2E.out]; omega
            obtain ⟨⟨a, c, l⟩, hp⟩ : ∃ p, R2[t]? = some p := ⟨_, List.getElem?_eq_getElem (by rw [HN2.out]; exact hlt)⟩
            have hG : G[t]? = some l := by rw [← HR2.out, List.getElem?_map, hp]; rfl
            have hmem := List.mem_of_getElem? hp
            have hmem2 : (re (a, c, l)) ∈ (Rt.map re ++ (⟨25, .slice ad2 N2 cp2, R2.map rv⟩ :: R2.map re)) :=
              List.mem_append_right _ (List.mem_cons_of_mem _ (List.mem_map_of_mem hmem))
            have hY : Sa wr a (ints l) := hfr.mem (List.mem_cons_of_mem _ hmem2)
            have hYn := (hfr.pick (List.mem_cons_of_mem _ hmem2)).none
            have hO : Sa wr ad2 (R2.map rv) := hfr.mem (List.mem_cons_of_mem _ (List.mem_append_right _ (List.mem_cons_self)))
            obtain ⟨b, off, rfl, hb, hc⟩ := hO.at t (by rw [List.length_map, HN2.out]; exact hlt)
            rw [List.getElem?_map, hp, Option.map_some] at hc
            have hc' : wr.cell? ⟨b, off + t, .none⟩ = some (.slice a l.length c) := hc
            have hll : l.length ≤ 1000 := by have := HGL.out l (List.mem_of_getElem? hG); omega
            have hfl := hfr.lit [(x : Int)] #[.int .i64 (x : Int)] rfl 1 rfl (by omega) 3
            have HFL := Lib.hid hfl
            have HY := Lib.hid (hY.alloc (.cells #[.int .i64 (x : Int)] 3))
            have HYN := Lib.hid hYn
            have HG := Lib.hid hG
            clear hc hO hY hYn hmem hmem2 hp hG hfr hfl
            have e1 : (0 : Int) ≤ (t : Int) := by omega
            have e2 : (t : Int) < (N2 : Int) := by omega
            go_wp2_with (first
              | (with_reducible refine at_slot 33 ?_; go_must (refine wpList_pushAll rfl (.tmp 31) (.tmp 32) 25 3 (.int .i64 0) 8 Try.underlying25 intInfo rfl (by omega) rfl _ a 1 1 l.length c (ints [(x : Int)]) (ints l) _ rfl HFL.out rfl HY.out (ints_len l) (fun e => (HYN.out e).symm) (ints_one l) (by omega) ?_); intro ad3 cp3 w3 hf3 hsz3; have HF3 := Lib.hid (hf3.swap); clear hf3 hsz3)
              | (with_reducible refine at_slot 35 ?_; go_must (refine wpList_push rfl (.tmp 29) (.tmp 34) 28 25 (.slice .none 0 0) 24 Try.underlying28 slsInfo rfl (by omega) rfl ad' N' cp' (Rt.map rv) (.slice ad3 (1 + l.length) cp3) _ rfl HF3.out rfl rfl (by omega) ?_); intro ad4 cp4 w4 hf4 hsz4))
            refine ⟨⟨t + 1, N' + 1, Rt ++ [(ad3, cp3, (x : Int) :: l)], ad4, cp4, by omega, by simp, rfl, Lib.hid (by rw [List.length_append, HN'.out]; rfl), Lib.hid ?_, ?_⟩, by simp only [intOf]; omega⟩
            · rw [List.map_append, HRt.out, List.take_add_one, HG.out, List.map_append, List.append_assoc]; rfl
            · rw [re_new, rv_new ad3 cp3 (x : Int) l] at hf4
              rw [List.map_append, List.map_append]
              refine hf4.perm (List.Perm.cons _ ?_)
              rw [List.append_assoc]
              exact List.perm_middle.symm
          · obtain rfl : t = N2 := by omega
            go_wp2_with fail
            refine ⟨⟨j + 1, x - 1, N', Rt, ad', cp', by omega, by congr 1; omega, rfl, HN', Lib.hid ?_, ?_⟩, by simp only [intOf]; omega⟩
            · rw [HRt.out, HLJ.out, List.take_of_length_le (by rw [HN2E.out]; omega)]
            · exact hfr.sub (List.Sublist.cons_cons _ (List.sublist_append_left _ _))
end Go.Proofs.Ytefblcchmkmfpaa
