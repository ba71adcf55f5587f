/- The walk of TopFair. -/
import Derived.Test.YtfompfaepabpgaaFairS
import Derived.Test.YtfompfaepabpgaaHw2
import Derived.Test.YtfompfaepabpgaaMgRat
import Derived.Deep.DeepCutAuto
import Derived.Deep.CutRange
namespace Go.Proofs.Ytfompfaepabpgaa
open Go.RowKit

def tkT (z : List Int) (k : Nat) : List Int := (z.take k).map (· % 8)
theorem tkT_len {z : List Int} {k : Nat} (h : k ≤ z.length) : (tkT z k).length = k := by simp [tkT]; omega
theorem tkT_succ {z : List Int} {k : Nat} (h : k < z.length) : tkT z (k + 1) = tkT z k ++ [nth z k % 8] := by
  unfold tkT
  have e : z[k]? = some (nth z k) := by unfold nth; rw [List.getD_eq_getElem?_getD, List.getElem?_eq_getElem h]; rfl
  rw [List.take_add_one, e, List.map_append]; rfl
def eI (ad : Option Addr) (n cp : Nat) (l : List Int) : Big := ⟨3, 1, n, .slice ad n cp, ints l⟩
theorem isum_app1 (a : List Int) (x : Int) : isum (a ++ [x]) = isum a + x := by
  induction a with
  | nil => simp [isum]
  | cons y a ih => rw [List.cons_append, isum, isum, ih]; omega
theorem isum_tkT (z : List Int) : ∀ k, k ≤ z.length → 0 ≤ isum (tkT z k) ∧ isum (tkT z k) ≤ 7 * k
  | 0, _ => by simp [tkT, isum]
  | k + 1, h => by
    have ih := isum_tkT z k (by omega)
    rw [tkT_succ (by omega), isum_app1]
    have := Int.emod_nonneg (nth z k) (b := 8) (by omega)
    have := Int.emod_lt_of_pos (nth z k) (b := 8) (by omega)
    omega
theorem wrap_small (v : Int) (h0 : 0 ≤ v) (h1 : v < 100) : IntKind.i64.wrap v = v := by
  obtain ⟨n, rfl⟩ := Int.eq_ofNat_of_zero_le h0
  exact (show ∀ k : Nat, k < 100 → IntKind.i64.wrap (k : Int) = (k : Int) by decide +kernel) n (by omega)
theorem isum_none : ∀ {l : List Int}, (∀ j, j < l.length → 0 ≤ nth l j) → ¬ Some1 l → isum l = 0
  | [], _, _ => rfl
  | x :: l, hp, hs => by
    have h0 : x = 0 := by
      have h1 := hp 0 (by simp)
      have h2 : ¬ 0 < x := fun h => hs ⟨0, by simp, h⟩
      have h1 : 0 ≤ x := h1
      omega
    rw [isum, h0, isum_none (l := l) (fun j hj => hp (j + 1) (by simp; omega)) (fun ⟨j, hj, h⟩ => hs ⟨j + 1, by simp; omega, h⟩)]
    rfl
theorem had_all {l : List Int} (hp : ∀ j, j < l.length → 0 ≤ nth l j) : hadAt l (isum l).toNat = l := by
  by_cases hs : Some1 l
  · exact hadAt_round hp hs
  · rw [isum_none hp hs]
    refine ext_nth (by rw [show (0 : Int).toNat = 0 from rfl, hadAt]; simp) fun i hi => ?_
    rw [show (0 : Int).toNat = 0 from rfl, hadAt] at hi ⊢
    rw [List.length_replicate] at hi
    rw [nth_rep _ _ _ hi]
    have h1 := hp i hi
    have h2 : ¬ 0 < nth l i := fun h => hs ⟨i, hi, h⟩
    omega
set_option maxRecDepth 100000 in
set_option maxHeartbeats 16000000 in
theorem fair_row (a : Option Addr) (n cap : Nat) (zs : List Int) (w : World) (hrow : IsRow .i64 w a n cap zs) :
    Calls Try.prog 10 #[.slice a n cap] w fun e w' => e = .returned (.bool true) ∧ Below w.heap.size w w' := by
  obtain ⟨hS, hlen, hmax, -⟩ := hrow.sa
  have hcap := hrow.cap
  obtain ⟨z, hz⟩ : ∃ z, zs.take n = z := ⟨_, rfl⟩
  rw [hz] at hS hlen
  unfold maxLen at hmax
  have HS := Lib.hid hS; have HLEN := Lib.hid hlen
  obtain ⟨m, m1, m2, m3⟩ : ∃ m : Nat, m ≤ n ∧ (m : Int) ≤ 8 ∧ (m = n ∨ (m : Int) = 8) := ⟨min n 8, by omega, by omega, by omega⟩
  have HMIN := Lib.hid (run_min2 #[3, 3] 3 n 8 m m1 m2 m3)
  clear hS hlen hz hrow m3
  have b1 : (m : Int) ≤ (cap : Int) := by omega
  go_enter Try.func10, Try.ntmps10
  go_wp2_with fail
  refine (halNew w).mono ?_; rintro e w1 ⟨H, rfl, hw1⟩
  have HW1 := Lib.hid hw1
  clear hw1
  go_wp2_with fail
  refine (halNew w1).mono ?_; rintro e w2 ⟨G, rfl, hw2⟩
  have hh : Hw2 w w2 G H ⟨[], []⟩ ⟨[], []⟩ [] := by
    obtain ⟨am, cm, al, cl, h1⟩ := HW1.out
    obtain ⟨am', cm', al', cl', h2⟩ := hw2
    exact ⟨am, cm, al, cl, am', cm', al', cl', h1.callG h2⟩
  have HW2 := Lib.hid hh.swap
  clear hh hw2 HW1
  go_wp2_with fail
  refine (works_any w2).mono ?_; rintro e w3 ⟨rfl, hb3⟩
  have HW3 := Lib.hid (HW2.out.keep hb3)
  clear hb3 HW2
  have hmin := HMIN.out
  go_wp2_with fail
  clear hmin
  go_loopw [5, 6, 44] (fun al o q wr => ∃ (k : Nat) (ad : Option Addr) (cp : Nat), k ≤ m ∧ q = .int .i64 k ∧ al = .int .i64 (isum (tkT z k)) ∧ o = .slice ad k cp ∧ Hid (Hw2 w wr H G ⟨mkM (tkT z k) (List.replicate k 0), []⟩ ⟨mkM (tkT z k) (List.replicate k 0), []⟩ [eI ad k cp (tkT z k)]) ∧ Hid (HOk ⟨mkM (tkT z k) (List.replicate k 0), []⟩ k)) (fun _ _ q _ => m - (intOf q).toNat)
  case atStart =>
    refine ⟨0, none, 0, by omega, rfl, rfl, rfl, Lib.hid ?_, Lib.hid (hok0 0)⟩
    obtain ⟨am, cm, al, cl, am', cm', al', cl', hf⟩ := HW3.out
    exact Hw2.into (hf.nilSlice 3 1)
  case round =>
    obtain ⟨k, ad, cp, hk, rfl, rfl, rfl, HW, HOK⟩ := hrel
    by_cases hlt : k < m
    · obtain ⟨b, off, rfl, hb0, hc⟩ := (HS.out.keep HW.out.below).int k (by rw [HLEN.out]; omega)
      obtain ⟨x, hx⟩ : ∃ x, nth z k = x := ⟨_, rfl⟩
      rw [hx] at hc
      have HX := Lib.hid hx
      have d1 : (0 : Int) ≤ (k : Int) := by omega
      have d2 : (k : Int) < (m : Int) := by omega
      clear hx
      obtain ⟨s, hs⟩ : ∃ s : HSt, (⟨mkM (tkT z k) (List.replicate k 0), []⟩ : HSt) = s := ⟨_, rfl⟩
      have HSS := Lib.hid hs
      rw [hs] at HW HOK
      clear hs
      go_wp2_with fail
      go_cut [9] from 49 to 56 (fun p9 wc => ∃ Nb, p9 = .pointer (some ⟨Nb, 0, none⟩) ∧ Hid (Hw2 w wc H G s s [eD Nb 1 (x % 8) (nmI k) ⟨#[]⟩, eI ad k cp (tkT z k)]))
      case first =>
        obtain ⟨N, hN⟩ : ∃ N, wr.heap.size = N := ⟨_, rfl⟩
        have hcv : ∀ W : World, W.cell? ⟨N, 0, none⟩ = some (.int .u8 (97 + (k : Int))) → Sem.run Try.prog (convert 66 9 (.slice (some ⟨N, 0, none⟩) 1 1)) W = .ok (.string (nmI k)) W := fun W h => oneStr W N (97 + k) (by rw [h]; congr 2)
        have hcv2 : ∀ W : World, W.cell? ⟨N + 1, 0, none⟩ = some (.int .u8 (97 + (k : Int))) → Sem.run Try.prog (convert 66 9 (.slice (some ⟨N + 1, 0, none⟩) 1 1)) W = .ok (.string (nmI k)) W := fun W h => oneStr W (N + 1) (97 + k) (by rw [h]; congr 2)
        have HA := Lib.hid ((HW.out.alloc (.cells #[.int .u8 (97 + (k : Int))] 5)).newDeed 1 (x % 8) (nmI k) ⟨#[]⟩ (N := N + 1) (by simp [hN])).drew
        have HB := Lib.hid ((HW.out.newDeed 1 (x % 8) (nmI k) ⟨#[]⟩ hN).alloc (.cells #[.int .u8 (97 + (k : Int))] 5)).drew
        have w8 : IntKind.u8.wrap (k : Int) = (k : Int) := (show ∀ k : Nat, k < 8 → IntKind.u8.wrap (k : Int) = (k : Int) by decide) k (by omega)
        have w9 : IntKind.u8.wrap (97 + (k : Int)) = 97 + (k : Int) := (show ∀ k : Nat, k < 8 → IntKind.u8.wrap (97 + (k : Int)) = 97 + (k : Int) by decide) k (by omega)
        have d3 : (k : Int) < 8 := by omega
        have m1' := Int.emod_nonneg x (b := 8) (by omega)
        have m2' := Int.emod_lt_of_pos x (b := 8) (by omega)
        go_region_with (go_at_call 24; refine (within_any x 8 _ (by omega) (by omega)).mono ?_; rintro e w' ⟨rfl, hw'⟩; subst hw')
        all_goals (go_wp2_with fail)
        all_goals (go_meet; first | exact ⟨N + 1, rfl, HA⟩ | exact ⟨N, rfl, HB⟩)
      case rest =>
        obtain ⟨Nb, rfl, HWc⟩ := hcut
        obtain ⟨e0, e1, e2, e3, -⟩ := HWc.out.deedX Nb 1 (x % 8) (nmI k) ⟨#[]⟩ (by simp)
        have m1' := Int.emod_nonneg x (b := 8) (by omega)
        have m2' := Int.emod_lt_of_pos x (b := 8) (by omega)
        have hlz : (tkT z k).length = k := tkT_len (by rw [HLEN.out]; omega)
        have hJ : doS s 1 (x % 8) (nmI k) ⟨#[]⟩ = ⟨⟨mkM (tkT z (k + 1)) (List.replicate (k + 1) 0), []⟩, ⟨#[]⟩, 0, 0⟩ := by
          have := join_mkM (tkT z k) (List.replicate k 0) (x % 8) (by rw [hlz]; simp) (by rw [hlz]; omega) m1' (by omega)
          rw [hlz, HSS.out] at this
          rw [this, tkT_succ (by rw [HLEN.out]; omega), HX.out, List.replicate_succ']
        have hok' := doS_ok HOK.out 1 (x % 8) (nmI k) ⟨#[]⟩
        rw [hJ] at hok'
        have hnz : (nmI k).size ≤ maxLen := by show 1 ≤ maxLen; unfold maxLen; omega
        have HC1 := Lib.hid (halDo2h H G s s _ k 1 (x % 8) (nmI k) ⟨#[]⟩ HWc.out HOK.out (by omega) hnz)
        rw [hJ] at HC1
        have HJ := Lib.hid hJ; have HOK' := Lib.hid hok'; have HNZ := Lib.hid hnz
        obtain ⟨s', hs'⟩ : ∃ s' : HSt, (⟨mkM (tkT z (k + 1)) (List.replicate (k + 1) 0), []⟩ : HSt) = s' := ⟨_, rfl⟩
        have HSS' := Lib.hid hs'
        rw [hs'] at HC1 HJ HOK'
        have HTS : Hid (tkT z (k + 1) = tkT z k ++ [x % 8]) := Lib.hid (by rw [tkT_succ (by rw [HLEN.out]; omega), HX.out])
        have hsb := isum_tkT z k (by rw [HLEN.out]; omega)
        obtain ⟨y, hy⟩ : ∃ y, x % 8 = y := ⟨_, rfl⟩
        rw [hy] at m1' m2' HWc HC1 HJ e1 HTS
        obtain ⟨S, hS⟩ : ∃ S, isum (tkT z k) = S := ⟨_, rfl⟩
        have HSE := Lib.hid hS
        rw [hS] at hsb ⊢
        obtain ⟨sb1, sb2⟩ := hsb
        clear hJ hok' hnz hs' hy hS hc
        go_wp2_with fail
        refine HC1.out.mono ?_; rintro e w5 ⟨rfl, hw5⟩
        obtain ⟨N5, hN5⟩ : ∃ N, w5.heap.size = N := ⟨_, rfl⟩
        have HW5 := Lib.hid (hw5.newTold ⟨#[]⟩ 0 hN5)
        obtain ⟨e0, e1, e2, e3, -⟩ := HW5.out.deedX Nb 1 y (nmI k) ⟨#[]⟩ (by simp)
        have HC2 := Lib.hid (halDo2h G H s s' _ k 1 y (nmI k) ⟨#[]⟩ HW5.out.swap HOK.out (by omega) HNZ.out)
        rw [HJ.out] at HC2
        clear hw5 HC1 HWc
        go_wp2_with fail
        refine HC2.out.mono ?_; rintro e w6 ⟨rfl, hw6⟩
        obtain ⟨N6, hN6⟩ : ∃ N, w6.heap.size = N := ⟨_, rfl⟩
        have HW6 := Lib.hid (hw6.newTold ⟨#[]⟩ 0 hN6)
        clear hw6 HC2 HW5
        go_wp2_with fail
        refine (goodT 2 (w6.alloc (.cells #[.string ⟨#[]⟩, .int .i64 0] 32)) (N6 + 1) _ (by simp [hN6]) #[.int .i64 0, .int .i64 0] rfl (by omega)).mono ?_; rintro e w7 ⟨rfl, hw7⟩
        have HW7 : Hid (Hw2 w w7 G H s' s' _) := Lib.hid (hw7 ▸ HW6.out.alloc (.cells #[.int .i64 0, .int .i64 0] 28))
        clear hw7 HW6
        go_wp2_with fail
        obtain ⟨-, q1, -, -, hNb⟩ := HW7.out.deedX Nb 1 y (nmI k) ⟨#[]⟩ (by simp)
        have HKS : Hid (∀ w', Below w7.heap.size w7 w' → w'.cell? ⟨Nb, 1, .none⟩ = some (.int .i64 y)) := Lib.hid fun w' hB => (hB.cell (p := ⟨Nb, 1, .none⟩) hNb).trans q1
        obtain ⟨am, cm, al, cl, am', cm', al', cl', hf7⟩ := HW7.out
        have hf8 := hf7.perm (List.perm_middle (a := eI ad k cp (tkT z k)) (l₁ := [_, _, _, _, _, _, _, _, _]) (l₂ := []))
        have HF8 := Lib.hid (hf8.alloc (.cells #[.int .i64 y] 3))
        have HCN : Hid (∀ (j : Nat) (u : Value), [Value.int .i64 y][j]? = some u → (w7.alloc (.cells #[.int .i64 y] 3)).drew.cell? ⟨w7.heap.size, j, .none⟩ = some u) := Lib.hid fun j u hj => by
          have := cell_new w7 #[.int .i64 y] 3 j
          rw [Nat.zero_add] at this
          show (w7.alloc (.cells #[.int .i64 y] 3)).cell? _ = _
          rw [this, ← Array.getElem?_toList]; exact hj
        have HQ1 := Lib.hid q1
        clear hf7 hf8 q1 hNb HW7
        refine wp_region_U [10] (fun w' : World => w'.cell? ⟨Nb, 1, .none⟩ = some (.int .i64 y)) (by kernel_rfl) ?_
        have hSd : (fun w' : World => w'.cell? ⟨Nb, 1, .none⟩ = some (.int .i64 y)) w7.drew := HQ1.out
        refine wpAnyU_takeY (i := 0) (v := ?_) rfl (by kernel_rfl) (by kernel_rfl) (by kernel_rfl) (by kernel_rfl) (fun _ _ _ h => h) (Or.inl ⟨by rfl, ?_⟩) (by assumption) ?_
        rotate_left
        · intro w _; go_simp; try with_reducible rfl
        try simp only [List.getElem_toArray]
        try simp only [List.getElem_cons_succ]
        try simp only [List.getElem_cons_zero]
        try simp only [Act.put]
        try simp only [List.setIfInBounds_toArray]
        try simp only [List.set_cons_succ]
        try simp only [List.set_cons_zero]
        refine wpAnyU_takeY (i := 1) (v := ?_) rfl (by kernel_rfl) (by kernel_rfl) (by kernel_rfl) (by kernel_rfl) (fun _ _ _ h => h) (Or.inl ⟨by rfl, ?_⟩) (by assumption) ?_
        rotate_left
        · intro w _; go_simp; try with_reducible rfl
        try simp only [List.getElem_toArray]
        try simp only [List.getElem_cons_succ]
        try simp only [List.getElem_cons_zero]
        try simp only [Act.put]
        try simp only [List.setIfInBounds_toArray]
        try simp only [List.set_cons_succ]
        try simp only [List.set_cons_zero]
        refine wpAnyU_take (i := 2) (v := ?_) rfl (by kernel_rfl) (by kernel_rfl) (by kernel_rfl) (by kernel_rfl) (by kernel_rfl) (by kernel_rfl) (fun _ _ _ h => h) (Or.inl ⟨by rfl, ?_⟩) (by assumption) ?_
        rotate_left
        · intro w hSw; obtain s1 := hSw; go_simp; try with_reducible rfl
        try simp only [List.getElem_toArray]
        try simp only [List.getElem_cons_succ]
        try simp only [List.getElem_cons_zero]
        try simp only [Act.put]
        try simp only [List.setIfInBounds_toArray]
        try simp only [List.set_cons_succ]
        try simp only [List.set_cons_zero]
        refine wpAnyU_takeY (i := 5) (v := ?_) rfl (by kernel_rfl) (by kernel_rfl) (by kernel_rfl) (by kernel_rfl) (fun _ _ _ h => h) (Or.inl ⟨by rfl, ?_⟩) (by assumption) ?_
        rotate_left
        · intro w _; go_simp; try with_reducible rfl
        try simp only [List.getElem_toArray]
        try simp only [List.getElem_cons_succ]
        try simp only [List.getElem_cons_zero]
        try simp only [Act.put]
        try simp only [List.setIfInBounds_toArray]
        try simp only [List.set_cons_succ]
        try simp only [List.set_cons_zero]
        refine wpAnyU_takeY (i := 6) (v := ?_) rfl (by kernel_rfl) (by kernel_rfl) (by kernel_rfl) (by kernel_rfl) (fun _ _ _ h => h) (Or.inl ⟨by rfl, ?_⟩) (by assumption) ?_
        rotate_left
        · intro w _; go_simp; try with_reducible rfl
        try simp only [List.getElem_toArray]
        try simp only [List.getElem_cons_succ]
        try simp only [List.getElem_cons_zero]
        try simp only [Act.put]
        try simp only [List.setIfInBounds_toArray]
        try simp only [List.set_cons_succ]
        try simp only [List.set_cons_zero]
        refine wpAnyU_take (i := 7) (v := ?_) rfl (by kernel_rfl) (by kernel_rfl) (by kernel_rfl) (by kernel_rfl) (by kernel_rfl) (by kernel_rfl) (fun _ _ _ h => h) (Or.inl ⟨by rfl, ?_⟩) (by assumption) ?_
        rotate_left
        · intro w hSw; obtain s1 := hSw; go_simp; try with_reducible rfl
        try simp only [List.getElem_toArray]
        try simp only [List.getElem_cons_succ]
        try simp only [List.getElem_cons_zero]
        try simp only [Act.put]
        try simp only [List.setIfInBounds_toArray]
        try simp only [List.set_cons_succ]
        try simp only [List.set_cons_zero]
        refine wpAnyU_takeY (i := 8) (v := ?_) rfl (by kernel_rfl) (by kernel_rfl) (by kernel_rfl) (by kernel_rfl) (fun _ _ _ h => h) (Or.inl ⟨by rfl, ?_⟩) (by assumption) ?_
        rotate_left
        · intro w _; go_simp; try with_reducible rfl
        try simp only [List.getElem_toArray]
        try simp only [List.getElem_cons_succ]
        try simp only [List.getElem_cons_zero]
        try simp only [Act.put]
        try simp only [List.setIfInBounds_toArray]
        try simp only [List.set_cons_succ]
        try simp only [List.set_cons_zero]
        refine wpAnyU_ready (rs := [3]) (by kernel_rfl) (by simp) ?_
        refine AllReadyU.cons rfl (fun K hK => ?_) AllReadyU.nil
        go_simp
        refine hK.out _ _ (fun _ => HKS.out _ (kin_alloc (Below.refl _ _) _).drew) ?_
        clear hK K
        try simp only [List.getElem_toArray]
        try simp only [List.getElem_cons_succ]
        try simp only [List.getElem_cons_zero]
        try simp only [Act.put]
        try simp only [List.setIfInBounds_toArray]
        try simp only [List.set_cons_succ]
        try simp only [List.set_cons_zero]
        refine wpAnyU_ready (rs := [4]) (by kernel_rfl) (by simp) ?_
        refine AllReadyU.cons rfl (fun K hK => ?_) AllReadyU.nil
        refine step_pushG rfl (.tmp 74) (.tmp 77) 65 3 (.int .i64 0) 1 8 Try.underlying65 (by kernel_rfl) rfl (by omega) (by omega) (by rfl) ad k cp w7.heap.size (ints (tkT z k)) [.int .i64 y] _ (by rfl) HF8.out.drew (by rfl) HCN.out rfl (by simp [Value.oneCell']) (by omega) ?_
        intro ad' cp' w8 hf hsz
        have hW8 : Hw2 w w8 G H s' s' [eI ad' (k + 1) cp' (tkT z k ++ [y]), _, _, eD Nb 1 y (nmI k) ⟨#[]⟩] := Hw2.into (by unfold eI; rw [show ints (tkT z k ++ [y]) = ints (tkT z k) ++ [.int .i64 y] by simp [ints]]; exact hf)
        obtain ⟨-, q8, -, -, -⟩ := hW8.deedX Nb 1 y (nmI k) ⟨#[]⟩ (by simp)
        have HW8 := Lib.hid hW8; have HQ8 := Lib.hid q8
        clear hf hsz hW8 q8
        refine hK.out _ _ (fun _ => HQ8.out) ?_
        clear hK K
        try simp only [List.getElem_toArray]
        try simp only [List.getElem_cons_succ]
        try simp only [List.getElem_cons_zero]
        try simp only [Act.put]
        try simp only [List.setIfInBounds_toArray]
        try simp only [List.set_cons_succ]
        try simp only [List.set_cons_zero]
        refine wpAnyU_ready (rs := [9]) (by kernel_rfl) (by simp) ?_
        refine AllReadyU.cons rfl (fun K hK => ?_) AllReadyU.nil
        go_simp
        refine hK.out _ _ (fun _ => HQ8.out) ?_
        clear hK K
        try simp only [List.getElem_toArray]
        try simp only [List.getElem_cons_succ]
        try simp only [List.getElem_cons_zero]
        try simp only [Act.put]
        try simp only [List.setIfInBounds_toArray]
        try simp only [List.set_cons_succ]
        try simp only [List.set_cons_zero]
        refine wpAnyU_ready (rs := [10]) (by kernel_rfl) (by simp) ?_
        refine AllReadyU.cons rfl (fun K hK => ?_) AllReadyU.nil
        go_simp
        refine hK.out _ _ (fun h => absurd h (by decide +kernel)) ?_
        clear hK K
        try simp only [List.getElem_toArray]
        try simp only [List.getElem_cons_succ]
        try simp only [List.getElem_cons_zero]
        try simp only [Act.put]
        try simp only [List.setIfInBounds_toArray]
        try simp only [List.set_cons_succ]
        try simp only [List.set_cons_zero]
        refine wpAnyU_done (by kernel_rfl) ?_ _
        go_wp2_with fail
        go_roundw
        case rel =>
          refine ⟨k + 1, ad', cp', by omega, by go_num, ?_, rfl, Lib.hid ?_, Lib.hid ?_⟩
          · rw [HTS.out, isum_app1, HSE.out, wrap_small _ (by omega) (by omega)]
          · rw [HSS'.out, HTS.out]; exact HW8.out.swap.sub (List.sublist_append_left [_] _)
          · rw [HSS'.out]; exact HOK'.out
        case measure => simp only [intOf]; omega
    · obtain rfl : k = m := by omega
      have hlz : (tkT z k).length = k := tkT_len (by rw [HLEN.out]; omega)
      have hsb := isum_tkT z k (by rw [HLEN.out]; omega)
      have hp0 : ∀ j, j < (tkT z k).length → 0 ≤ nth (tkT z k) j := fun j hj => by
        have := (HOK.out.tk).2 j (by rw [tks_mkM]; exact hj)
        rw [tks_mkM] at this; exact this.1
      have hp1 : ∀ x ∈ tkT z k, 0 ≤ x := fun x hx => by
        obtain ⟨i, hi, e⟩ := List.getElem_of_mem hx
        have := hp0 i hi
        unfold nth at this
        simp [hi] at this
        rw [← e]; exact this
      have HHA := Lib.hid (had_all hp0)
      have HLA := Lib.hid (lots_all hp1)
      have HH0 : Hid (List.replicate k 0 = hadAt (tkT z k) 0) := Lib.hid (by rw [hadAt, hlz])
      have HR0 : Hid (List.replicate k 0 = runL (tkT z k) (rng 0)) := Lib.hid (by rw [show rng 0 = [] from rfl, runL_nil, hlz])
      obtain ⟨l, hl⟩ : ∃ l, tkT z k = l := ⟨_, rfl⟩
      obtain ⟨A, hA⟩ : ∃ A : Nat, isum l = A := ⟨(isum l).toNat, by rw [hl] at hsb; omega⟩
      rw [hl] at hlz hsb hp0 HHA HLA HH0 HR0 HW HOK ⊢
      rw [hA] at hsb HHA HLA ⊢
      rw [Int.toNat_natCast] at HHA HLA
      have HLZ := Lib.hid hlz; have HP0 := Lib.hid hp0; have HA := Lib.hid hA
      obtain ⟨sb1, sb2⟩ := hsb
      clear hl hlz hp0 hp1 hA
      go_wp2_with fail
      go_loopw [85] (fun q wr => ∃ t : Nat, t ≤ A ∧ q = .int .i64 t ∧ Hid (Hw2 w wr H G ⟨mkM l (hadAt l t), []⟩ ⟨mkM l (runL l (rng t)), []⟩ [eI ad k cp l]) ∧ Hid (HOk ⟨mkM l (hadAt l t), []⟩ (k + t)) ∧ Hid (HOk ⟨mkM l (runL l (rng t)), []⟩ (k + t))) (fun q _ => A - (intOf q).toNat)
      case atStart =>
        refine ⟨0, by omega, rfl, Lib.hid ?_, Lib.hid ?_, Lib.hid ?_⟩
        · rw [← HH0.out, ← HR0.out]; exact HW.out
        · rw [← HH0.out]; exact HOK.out
        · rw [← HR0.out]; exact HOK.out
      case round =>
        obtain ⟨t, ht, rfl, HWt, HO1, HO2⟩ := hrel
        by_cases hlt2 : t < A
        · have hs1 : Some1 l := by
            refine Classical.byContradiction fun h => ?_
            have : isum l = 0 := isum_none HP0.out h
            rw [HA.out] at this; omega
          obtain ⟨f1, f2⟩ := fair_mkM hs1 t (by omega)
          obtain ⟨g1, g2⟩ := lot_mkM (l := l) t (by rw [HA.out]; omega)
          have HC1 := Lib.hid (halDo2h H G _ _ _ (k + t) 7 0 ⟨#[]⟩ ⟨#[]⟩ HWt.out HO1.out (by omega) (by unfold maxLen; decide))
          have hk1 := doS_ok HO1.out 7 0 ⟨#[]⟩ ⟨#[]⟩
          have hk2 := doS_ok HO2.out 5 t ⟨#[]⟩ ⟨#[]⟩
          rw [f2] at hk1
          rw [g2] at hk2
          have HK1 := Lib.hid hk1; have HK2 := Lib.hid hk2
          have F1 := Lib.hid f1; have F2 := Lib.hid f2; have G1 := Lib.hid g1; have G2 := Lib.hid g2
          have d1 : (0 : Int) ≤ (t : Int) := by omega
          have d2 : (t : Int) < (A : Int) := by omega
          clear hs1 f1 f2 g1 g2 hk1 hk2
          go_wp2_with fail
          refine HC1.out.mono ?_; rintro e w5 ⟨rfl, hw5⟩
          rw [F1.out]
          rw [F2.out] at hw5
          obtain ⟨N5, hN5⟩ : ∃ N, w5.heap.size = N := ⟨_, rfl⟩
          generalize (doS ⟨mkM l (hadAt l t), []⟩ 7 0 ⟨#[]⟩ ⟨#[]⟩).nm = nm1
          generalize (doS ⟨mkM l (hadAt l t), []⟩ 7 0 ⟨#[]⟩ ⟨#[]⟩).n = n1
          have HW5 := Lib.hid (hw5.newTold nm1 n1 hN5)
          have HC2 := Lib.hid (halDo2h G H _ _ _ (k + t) 5 t ⟨#[]⟩ ⟨#[]⟩ HW5.out.swap HO2.out (by omega) (by unfold maxLen; decide))
          clear hw5 HC1
          go_wp2_with fail
          refine HC2.out.mono ?_; rintro e w6 ⟨rfl, hw6⟩
          rw [G1.out]
          rw [G2.out] at hw6
          obtain ⟨N6, hN6⟩ : ∃ N, w6.heap.size = N := ⟨_, rfl⟩
          generalize (doS ⟨mkM l (runL l (rng t)), []⟩ 5 t ⟨#[]⟩ ⟨#[]⟩).nm = nm2
          generalize (doS ⟨mkM l (runL l (rng t)), []⟩ 5 t ⟨#[]⟩ ⟨#[]⟩).n = n2
          have HW6 := Lib.hid (hw6.newTold nm2 n2 hN6)
          clear hw6 HC2 HW5
          go_wp2_with fail
          refine (goodT 2 (w6.alloc (.cells #[.string nm2, .int .i64 n2] 32)) (N6 + 1) _ (by simp [hN6]) #[.int .i64 0, .int .i64 0] rfl (by omega)).mono ?_; rintro e w7 ⟨rfl, hw7⟩
          have HW7 : Hid (Hw2 w w7 G H _ _ _) := Lib.hid (hw7 ▸ HW6.out.alloc (.cells #[.int .i64 0, .int .i64 0] 28))
          clear hw7 HW6
          go_wp2_with fail
          exact ⟨⟨t + 1, by omega, by simp, Lib.hid (HW7.out.swap.sub (List.sublist_append_right [_, _] _)), HK1, HK2⟩, by simp only [intOf]; omega⟩
        · obtain rfl : t = A := by omega
          rw [HHA.out, HLA.out] at HWt
          rw [HHA.out] at HO1
          clear HO2 HHA HLA HH0 HR0 HW HOK
          go_wp2_with fail
          go_loopw [109] (fun q wr => ∃ i : Nat, i ≤ k ∧ q = .int .i64 i ∧ Hid (Hw2 w wr H G ⟨mkM l l, []⟩ ⟨mkM l l, []⟩ [eI ad k cp l])) (fun q _ => k - (intOf q).toNat)
          case atStart => exact ⟨0, by omega, rfl, HWt⟩
          case round =>
            obtain ⟨i, hi, rfl, HWi⟩ := hrel
            by_cases hlt3 : i < k
            · obtain ⟨v, hv⟩ : ∃ v, nth l i = v := ⟨_, rfl⟩
              obtain ⟨am, cm, al, cl, am', cm', al', cl', hfi⟩ := HWi.out.out
              obtain ⟨bI, offI, rfl, hbI, hcI⟩ := Sa.int (hfi.sa (T := 3) (c := 1) (n := k) (cap := cp) (ad := ad) (xs := ints l) List.mem_cons_self) i (by rw [HLZ.out]; exact hlt3)
              rw [hv] at hcI
              obtain ⟨N, hN⟩ : ∃ N, wr.heap.size = N := ⟨_, rfl⟩
              have e1 : ((97 + i : Nat) : Int) = 97 + (i : Int) := by omega
              have hcv : ∀ W : World, W.cell? ⟨N, 0, none⟩ = some (.int .u8 (97 + (i : Int))) → Sem.run Try.prog (convert 66 9 (.slice (some ⟨N, 0, none⟩) 1 1)) W = .ok (.string (nmI i)) W := fun W h => oneStr W N (97 + i) (by rw [h]; congr 2)
              have w8 : IntKind.u8.wrap (i : Int) = (i : Int) := (show ∀ k : Nat, k < 8 → IntKind.u8.wrap (k : Int) = (k : Int) by decide) i (by omega)
              have w9 : IntKind.u8.wrap (97 + (i : Int)) = 97 + (i : Int) := (show ∀ k : Nat, k < 8 → IntKind.u8.wrap (97 + (k : Int)) = 97 + (k : Int) by decide) i (by omega)
              have d3 : (i : Int) < 8 := by omega
              have d1 : (0 : Int) ≤ (i : Int) := by omega
              have d2 : (i : Int) < (k : Int) := by omega
              have HA1 := Lib.hid ((HWi.out.alloc (.cells #[.int .u8 (97 + (i : Int))] 5)).newDeed 6 0 (nmI i) ⟨#[]⟩ (N := N + 1) (by simp [hN]))
              obtain ⟨e0, e2, e3, e4, -⟩ := HA1.out.deedX (N + 1) 6 0 (nmI i) ⟨#[]⟩ (by simp)
              have hT := tell_mkM l l i (by rw [HLZ.out]; omega) (by rw [HLZ.out]; exact hlt3)
              rw [hv] at hT
              have HC1 := Lib.hid (halDo2h H G _ _ _ (k + t) 6 0 (nmI i) ⟨#[]⟩ HA1.out HO1.out (by omega) (by show 1 ≤ maxLen; unfold maxLen; omega))
              have HC2 := fun w5 N5 (h : Hw2 w w5 H G ⟨mkM l l, []⟩ ⟨mkM l l, []⟩ (eT N5 (nmI i) v :: eD (N + 1) 6 0 (nmI i) ⟨#[]⟩ :: [eI (some ⟨bI, offI, none⟩) k cp l])) => halDo2h G H _ _ _ (k + t) 6 0 (nmI i) ⟨#[]⟩ h.swap HO1.out (by omega) (show (nmI i).size ≤ maxLen by show 1 ≤ maxLen; unfold maxLen; omega)
              rw [hT] at HC1
              have HC2 := Lib.hid HC2
              have HT := Lib.hid hT
              clear hfi hv hT
              go_wp2_with fail
              refine HC1.out.mono ?_; rintro e w5 ⟨rfl, hw5⟩
              obtain ⟨N5, hN5⟩ : ∃ N, w5.heap.size = N := ⟨_, rfl⟩
              have HW5 := Lib.hid (hw5.newTold (nmI i) v hN5)
              have HC3 := Lib.hid (HC2.out _ _ HW5.out)
              rw [HT.out] at HC3
              obtain ⟨e0, e2, e3, e4, -⟩ := HW5.out.deedX (N + 1) 6 0 (nmI i) ⟨#[]⟩ (by simp)
              clear hw5 HC1 HC2
              go_wp2_with fail
              refine HC3.out.mono ?_; rintro e w6 ⟨rfl, hw6⟩
              obtain ⟨N6, hN6⟩ : ∃ N, w6.heap.size = N := ⟨_, rfl⟩
              have HW6 := Lib.hid (hw6.newTold (nmI i) v hN6)
              clear hw6 HC3 HW5
              go_wp2_with fail
              refine (goodT 2 (w6.alloc (.cells #[.string (nmI i), .int .i64 v] 32)) (N6 + 1) _ (by simp [hN6]) #[.int .i64 0, .int .i64 0] rfl (by omega)).mono ?_; rintro e w7 ⟨rfl, hw7⟩
              have HW7 : Hid (Hw2 w w7 G H _ _ _) := Lib.hid (hw7 ▸ HW6.out.alloc (.cells #[.int .i64 0, .int .i64 0] 28))
              obtain ⟨-, p1, -, -⟩ := HW7.out.told (N := N6) (nm := nmI i) (n := v) (by simp)
              obtain ⟨-, p2, -, -⟩ := HW7.out.told (N := N5) (nm := nmI i) (n := v) (by simp)
              have g5 : (v == v) = true := beq_self_eq_true _
              clear hw7 HW6
              go_wp2_with fail
              exact ⟨⟨i + 1, by omega, by simp, Lib.hid (HW7.out.swap.sub (List.sublist_append_right [_, _, _] _))⟩, by simp only [intOf]; omega⟩
            · obtain rfl : i = k := by omega
              go_wp2_with fail
              go_ret
              exact ⟨rfl, HWi.out.below⟩
end Go.Proofs.Ytfompfaepabpgaa
