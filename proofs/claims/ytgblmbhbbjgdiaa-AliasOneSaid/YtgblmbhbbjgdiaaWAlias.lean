/- The walks of the laws AliasEven and AliasOne. -/
import Derived.Test.YtgblmbhbbjgdiaaAlias2
import Derived.Test.YtgblmbhbbjgdiaaSlFn
namespace Go.Proofs.Ytgblmbhbbjgdiaa
open Go.RowKit

def drawP (C : List Int) (S : Int) (n c o : Nat) (x : Int) : List Int := (List.range n).map fun i => sumA (givesC C S i) c + (if i = c then (if x ≤ cut C c then x else cut C c) else 0) + if i = o then (if x ≤ cut C c then 0 else x - cut C c) else 0
theorem drawP_len (C : List Int) (S : Int) (n c o : Nat) (x : Int) : (drawP C S n c o x).length = n := by simp [drawP]
theorem drawP_nth (C : List Int) (S : Int) (n c o : Nat) (x : Int) (i : Nat) (h : i < n) : nth (drawP C S n c o x) i = sumA (givesC C S i) c + (if i = c then (if x ≤ cut C c then x else cut C c) else 0) + if i = o then (if x ≤ cut C c then 0 else x - cut C c) else 0 := by simp [drawP, nth, h]
theorem drawP_zero (C : List Int) (S : Int) (n c o : Nat) (h : 0 ≤ cut C c) : gotL C S n c = drawP C S n c o 0 := ext_nth (by rw [gotL_len, drawP_len]) (fun i hi => by
  rw [gotL_len] at hi
  rw [gotL_nth _ _ _ _ _ hi, drawP_nth _ _ _ _ _ _ _ hi, if_pos h, if_pos h]; split <;> split <;> omega)
theorem drawP_all {C : List Int} {S : Int} {n c o : Nat} (ho : oth C c = o) (h : cut C c ≤ S) : drawP C S n c o S = gotL C S n (c + 1) := ext_nth (by rw [gotL_len, drawP_len]) (fun i hi => by
  rw [drawP_len] at hi
  rw [gotL_nth _ _ _ _ _ hi, drawP_nth _ _ _ _ _ _ _ hi, sumA]
  unfold givesC
  rw [ho]
  have h1 : (if c = i then cut C c else 0) = if i = c then cut C c else 0 := by
    by_cases e : i = c
    · rw [if_pos e, if_pos e.symm]
    · rw [if_neg e, if_neg (fun h => e h.symm)]
  have h2 : (if (o : Int) = (i : Int) then S - cut C c else 0) = if i = o then S - cut C c else 0 := by
    by_cases e : i = o
    · rw [if_pos e, if_pos (by omega)]
    · rw [if_neg e, if_neg (by omega)]
  have h3 : (if S ≤ cut C c then S else cut C c) = cut C c := by split <;> omega
  have h4 : (if S ≤ cut C c then 0 else S - cut C c) = S - cut C c := by split <;> omega
  rw [h1, h2, h3, h4, Int.add_assoc])
theorem drawP_step (C : List Int) (S : Int) (n c o k : Nat) (x : Int) (_hc : c < n) (hk : k < n) (he : k = if x < cut C c then c else o) : (drawP C S n c o x).set k (nth (drawP C S n c o x) k + 1) = drawP C S n c o (x + 1) := ext_nth (by rw [List.length_set, drawP_len, drawP_len]) (fun i hi => by
  rw [List.length_set, drawP_len] at hi
  rw [nth_set _ _ _ _ (by rw [drawP_len]; exact hk), drawP_nth _ _ _ _ _ _ _ hi, drawP_nth _ _ _ _ _ _ _ hk, drawP_nth _ _ _ _ _ _ _ hi]
  by_cases h1 : x < cut C c
  · rw [if_pos h1] at he
    subst he
    simp only [if_pos (show x ≤ cut C k by omega), if_pos (show x + 1 ≤ cut C k by omega)]
    by_cases e : i = k
    · subst e; simp only [if_true]; split <;> omega
    · simp only [if_neg e]
  · rw [if_neg h1] at he
    subst he
    by_cases h2 : x ≤ cut C c
    · have : x = cut C c := by omega
      simp only [if_pos h2, if_neg (show ¬ x + 1 ≤ cut C c by omega)]
      by_cases e : i = k
      · subst e; simp only [if_true]; split <;> omega
      · simp only [if_neg e]; split <;> omega
    · simp only [if_neg h2, if_neg (show ¬ x + 1 ≤ cut C c by omega)]
      by_cases e : i = k
      · subst e; simp only [if_true]; split <;> omega
      · simp only [if_neg e])
theorem drawP_bd {C : List Int} {n : Nat} {S : Int} (h : ColOk C n S) (n12 : n ≤ 12) (s0 : 0 < S) (s12 : S ≤ 1200) (c o : Nat) (hc : c < n) (x : Int) (x0 : 0 ≤ x) (x1 : x ≤ S) (i : Nat) (hi : i < n) : 0 ≤ nth (drawP C S n c o x) i ∧ nth (drawP C S n c o x) i ≤ 40000 := by
  have h1 := got_bd h i c (by omega)
  have h2 := (h.cb c hc).1
  have jb : (c : Int) * (2 * S) ≤ 12 * 2400 := Int.mul_le_mul (by omega) (by omega) (by omega) (by omega)
  rw [drawP_nth _ _ _ _ _ _ _ hi]
  generalize sumA (givesC C S i) c = G at *
  generalize (c : Int) * (2 * S) = q at *
  generalize cut C c = y at *
  (repeat' split) <;> omega
/-- no weight, never drawn -/
theorem never_drawn {w C : List Int} {n : Nat} {S : Int} (h : TabOk w C n S) (c : Nat) (hc : c < n) : (nth w c = 0 → cut C c = 0) ∧ ∀ o : Nat, oth C c = o → cut C c < S → nth w o ≠ 0 := by
  have hcb := h.cb c hc
  constructor
  · intro hz
    have := h.acc c hc
    have g := sumA_ge (f := givesC C S c) n (fun t ht => (gives_bd h.col c t ht).1) c hc
    rw [this, hz] at g
    unfold givesC at g
    rw [if_pos rfl] at g
    split at g <;> omega
  · intro o ho hlt hz
    have hon : o < n := by omega
    have := h.acc o hon
    have g := sumA_ge (f := givesC C S o) n (fun t ht => (gives_bd h.col o t ht).1) c hc
    rw [this, hz] at g
    unfold givesC at g
    rw [ho, if_pos rfl] at g
    split at g <;> omega

set_option maxRecDepth 100000 in
set_option maxHeartbeats 8000000 in
theorem aliasEven_any (l : List Int) (n : Nat) (a : Option Addr) (ca : Nat) (w : World) (h : Sa w a (ints l)) (hn : l.length = n) :
    Calls Try.prog 6 #[.slice a n ca] w fun e w' => e = .returned (.bool true) ∧ Below w.heap.size w w' := by
  have HN := Lib.hid hn; have HS := Lib.hid h
  clear h
  go_enter Try.func6, Try.ntmps6
  go_wp2_with fail
  refine (tables_any _).mono ?_; rintro e w1 ⟨rfl, hb⟩
  have F1 := (Fr.start w).keep hb
  clear hb
  go_wp2_with fail
  refine (aliasBuild l n _ _ _ (F1.old HS.out) HN.out).mono ?_; rintro e w2 hx
  rcases hx with ⟨hne, rfl, hf⟩ | ⟨C, O, hc, hT, rfl, hf⟩
  · have F2 := F1.call hf
    have z : (chkA l != 0) = true := bne_iff_ne.2 hne
    go_wp2_with fail
    go_ret
    exact ⟨rfl, F2.bel⟩
  · have F2 := F1.call hf
    clear F1 hf
    have ok := chkA_ok hc
    rw [hn] at ok
    obtain ⟨S, hS⟩ : ∃ S, sumA (nth l) n = S := ⟨_, rfl⟩
    rw [hS] at ok hT
    have OK' := Lib.hid ok
    have n1 := ok.n1
    have n12 := ok.n12
    have s0 := ok.pos
    have s12 := ok.s12
    have HC := Lib.hid hc; have HSS := Lib.hid hS; have HT := Lib.hid hT
    have zn : ((n : Int) != (n : Int)) = false := by simp
    clear hc hn ok hS hT
    go_wp2_with fail
    refine (aliasTest l C n S _ _ _ _ _ (F2.old HS.out) HN.out (F2.get 0 rfl) HC.out HSS.out HT.out.col).mono ?_; rintro e w3 ⟨rfl, hb⟩
    rw [decide_eq_true HT.out.acc]
    have F3 := F2.keep hb
    clear F2 hb
    go_wp2_with fail
    clear zn
    go_loop [7, 54] (fun s i => ∃ k : Nat, k ≤ n ∧ i = .int .i64 k ∧ ∃ z : Int, s = .int .i64 z ∧ 0 ≤ z ∧ z ≤ k * 100 ∧ Hid (z = sumA (nth l) k)) (fun _ i => n - (intOf i).toNat)
    case atStart => exact ⟨0, by omega, rfl, 0, rfl, by omega, by omega, Lib.hid rfl⟩
    case round =>
      obtain ⟨k, hk, rfl, z, rfl, z1, z2, HZ⟩ := hrel
      by_cases hlt : k < n
      · obtain ⟨b', off, rfl, hb, hc⟩ := (F3.old HS.out).int k (by rw [HN.out]; exact hlt)
        have hbd := OK'.out.bd k hlt
        have hst : sumA (nth l) (k + 1) = sumA (nth l) k + nth l k := rfl
        obtain ⟨x, hx⟩ : ∃ x, nth l k = x := ⟨_, rfl⟩
        rw [hx] at hc hbd hst
        have HZ2 : Hid (z + x = sumA (nth l) (k + 1)) := Lib.hid (by rw [hst, HZ.out])
        obtain ⟨x1, x2⟩ := hbd
        clear hx hst HZ
        go_wp2_with fail
        go_round
        case rel => exact ⟨k + 1, by omega, by go_num, _, rfl, by omega, by omega, HZ2⟩
        case measure => simp only [intOf]; omega
      · obtain rfl : k = n := by omega
        obtain rfl : z = S := by rw [HZ.out, HSS.out]
        clear HZ z1 z2
        have hmk := make_ints k (by omega)
        have F4 := F3.makeInts k (by omega)
        rw [gotL_zero C z k] at F4
        clear F3
        go_wp2_with fail
        obtain ⟨L, hL⟩ : ∃ L, w3.heap.size = L := ⟨_, rfl⟩
        rw [hL] at F4 ⊢
        clear hmk hL
        go_loopw [67] (fun i wr => ∃ c : Nat, c ≤ k ∧ i = .int .i64 c ∧ Fr w wr [intE L (gotL C z k c) k, colE O C k]) (fun i _ => k - (intOf i).toNat)
        case atStart => exact ⟨0, by omega, rfl, F4⟩
        case round =>
          obtain ⟨c, hc, rfl, hfr⟩ := hrel
          clear F4
          by_cases hlt : c < k
          · obtain ⟨⟨q1, q2⟩, q3, q4⟩ := HT.out.cb c hlt
            obtain ⟨o, ho⟩ : ∃ o : Nat, oth C c = o := ⟨(oth C c).toNat, by omega⟩
            have hon : o < k := by omega
            have HO := Lib.hid ho
            have F5 := hfr
            rw [drawP_zero C z k c o q1] at F5
            clear hfr
            go_wp2_with fail
            go_loopw [71] (fun i wr => ∃ x : Nat, i = .int .i64 x ∧ (x : Int) ≤ z ∧ Fr w wr [intE L (drawP C z k c o x) k, colE O C k]) (fun i _ => z.toNat - (intOf i).toNat)
            case atStart => exact ⟨0, rfl, by omega, F5⟩
            case round =>
              obtain ⟨x, rfl, hx, hfr⟩ := hrel
              clear F5
              by_cases hxz : (x : Int) < z
              · have HF := Lib.hid hfr
                clear hfr
                go_wp2_with fail
                refine (aliasDraw C k c x z _ _ _ (HF.out.get 1 rfl) HT.out.col n12 hlt).mono ?_; rintro e w' ⟨rfl, rfl⟩
                obtain ⟨kk, hkk, hkn⟩ : ∃ kk : Nat, (if (x : Int) < cut C c then (c : Int) else oth C c) = (kk : Int) ∧ kk < k := by
                  split
                  · exact ⟨c, rfl, hlt⟩
                  · exact ⟨o, HO.out, hon⟩
                have hke : kk = if (x : Int) < cut C c then c else o := by
                  by_cases e : (x : Int) < cut C c
                  · rw [if_pos e] at hkk ⊢; omega
                  · rw [if_neg e, HO.out] at hkk; rw [if_neg e]; omega
                have hst := drawP_step C z k c o kk x hlt hkn hke
                have hb := drawP_bd HT.out.col n12 s0 s12 c o hlt x (by omega) hx kk hkn
                rw [hkk]
                obtain ⟨_, e, _, c1, f1⟩ := HF.out.openI kk (by rw [drawP_len]; exact hkn)
                cases e
                obtain ⟨u, hu⟩ : ∃ u, nth (drawP C z k c o x) kk = u := ⟨_, rfl⟩
                rw [hu] at c1 hst hb
                have F6 := HF.out.setInt kk (u + 1)
                rw [hst] at F6
                have HF6 := Lib.hid F6
                obtain ⟨u1, u2⟩ := hb
                have d1 : decide ((kk : Int) < 0) = false := decide_eq_false (by omega)
                have d2 : decide ((k : Int) ≤ (kk : Int)) = false := decide_eq_false (by omega)
                have d3 : (0 : Int) ≤ (kk : Int) := by omega
                have d4 : (kk : Int) < (k : Int) := by omega
                clear hkk hke hst hu F6
                go_wp2_with fail
                exact ⟨⟨x + 1, by simp, by omega, HF6.out⟩, by simp only [intOf]; omega⟩
              · have exz : (x : Int) = z := by omega
                rw [exz, drawP_all HO.out q2] at hfr
                go_wp2_with fail
                exact ⟨⟨c + 1, by omega, by simp, hfr⟩, by simp only [intOf]; omega⟩
          · obtain rfl : c = k := by omega
            have HF := Lib.hid hfr
            clear hfr
            go_wp2_with fail
            go_loop [103] (fun i => ∃ t : Nat, t ≤ c ∧ i = .int .i64 t) (fun i => c - (intOf i).toNat)
            case atStart => exact ⟨0, by omega, rfl⟩
            case round =>
              obtain ⟨t, ht, rfl⟩ := hrel
              by_cases htj : t < c
              · obtain ⟨b', off, rfl, hb, c1⟩ := (HF.out.old HS.out).int t (by rw [HN.out]; exact htj)
                obtain ⟨_, e, _, c2, -⟩ := HF.out.openI t (by rw [gotL_len]; exact htj)
                cases e
                have hbd := OK'.out.bd t htj
                rw [gotL_nth C z c c t htj, HT.out.acc t htj] at c2
                obtain ⟨x, hx⟩ : ∃ x, nth l t = x := ⟨_, rfl⟩
                rw [hx] at c1 c2 hbd
                obtain ⟨x1, x2⟩ := hbd
                have m1 : 0 ≤ x * (c : Int) := Int.mul_nonneg x1 (by omega)
                have m2 : x * (c : Int) ≤ 100 * 12 := Int.mul_le_mul x2 (by omega) (by omega) (by omega)
                obtain ⟨P, hP⟩ : ∃ P, x * (c : Int) = P := ⟨_, rfl⟩
                rw [hP] at m1 m2 c2
                have zz : (P != P) = false := by simp
                have hd1 : (0 : Int) ≤ (t : Int) := by omega
                have hd2 : (t : Int) < (c : Int) := by omega
                clear hx
                go_wp2_with fail
                go_round
                case rel => exact ⟨t + 1, by omega, by go_num⟩
                case measure => simp only [intOf]; omega
              · go_wp2_with fail
                go_ret
                exact ⟨rfl, HF.out.bel⟩
end Go.Proofs.Ytgblmbhbbjgdiaa
