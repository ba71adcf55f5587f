/- The walk of OrbitsLeast. -/
import Derived.Test.YtdabgibmbmhmdaaWOrb3
import Derived.Test.YtdabgibmbmhmdaaSrtN
namespace Go.Proofs.Ytdabgibmbmhmdaa
open Go.RowKit

theorem srtI_eq {l m : List Int} (h : l.Perm m) : srtI l = srtI m := by
  have hs : ∀ l : List Int, (srtI l).Pairwise (fun a b => a ≤ b) := fun l => by
    have := List.pairwise_mergeSort (le := fun x y : Int => decide (x ≤ y)) (fun a b c h1 h2 => by simp at *; omega) (fun a b => by simp; omega) l
    exact this.imp fun h => of_decide_eq_true h
  have hp : (srtI l).Perm (srtI m) := (srtI_perm l).trans (h.trans (srtI_perm m).symm)
  exact hp.eq_of_pairwise (fun a b _ _ h1 h2 => by omega) (hs l) (hs m)
theorem least3 : leastL (rotL 3) [2, 1, 0] = [0, 2, 1] := by decide +kernel
structure LBun (w : World) (a1 : Option Addr) (R : List Rw) (a2 : Option Addr) (S : List Rw) (a3 : Option Addr) (z : List Int) (a4 : Option Addr) (b : List Int) : Prop where
  r1 : Rm w a1 R
  r2 : Rm w a2 S
  s1 : Sa w a3 (ints z)
  s2 : Sa w a4 (ints b)
theorem LBun.keep {w w' : World} {a1 a2 a3 a4 : Option Addr} {R S : List Rw} {z b : List Int} (h : LBun w a1 R a2 S a3 z a4 b) (k : Below w.heap.size w w') : LBun w' a1 R a2 S a3 z a4 b :=
  ⟨h.r1.keep k, h.r2.keep k, h.s1.keep k, h.s2.keep k⟩
set_option maxRecDepth 100000 in
set_option maxHeartbeats 16000000 in
theorem orbitsLeast_row (a0 : Int) (a : Option Addr) (m cap : Nat) (a2 : Option Addr) (m2 cap2 : Nat) (z0 : List Int) (a3 : Int) (w : World) (hmat : IsMatS w a m cap) (hrow : Sa w a2 (ints z0)) (hz0 : z0.length = m2) (hc0 : m2 ≤ cap2) (hm0 : m2 ≤ maxLen) :
    Calls Try.prog 14 #[.int .i64 a0, .slice a m cap, .slice a2 m2 cap2, .int .i64 a3] w fun e w' => e = .returned (.bool true) ∧ Below w.heap.size w w' := by
  unfold maxLen at hm0
  obtain ⟨n, hn, n7⟩ : ∃ n : Nat, a0 % 7 = (n : Int) ∧ n < 7 := ⟨(a0 % 7).toNat, by omega, by omega⟩
  have HW0 := fun w' => Lib.hid (within_any a0 7 w' (by omega) (by omega))
  rw [hn] at HW0
  obtain ⟨t, t1, t2, t3⟩ : ∃ t : Nat, t ≤ m2 ∧ (t : Int) ≤ (n : Int) ∧ (t = m2 ∨ (t : Int) = (n : Int)) := ⟨min m2 n, by omega, by omega, by omega⟩
  have HMIN := Lib.hid (run_min2 #[3, 3] 3 m2 n t t1 t2 t3)
  have HMat := Lib.hid hmat; have HRow := Lib.hid hrow; have HZ0 := Lib.hid hz0
  clear hn t3 hmat hrow hz0
  obtain ⟨N, hN⟩ : ∃ N, w.heap.size = N := ⟨_, rfl⟩
  have h1 := (Fr.start w).lit' [1, 2, 0] #[.int .i64 1, .int .i64 2, .int .i64 0] rfl 3 rfl (by omega) 3 N hN
  have h2 := h1.new 22 #[.slice (some ⟨N, 0, none⟩) 3 3] [.slice (some ⟨N, 0, none⟩) 3 3] rfl 1 rfl (by omega)
  have e1 : (w.alloc (.cells #[.int .i64 1, .int .i64 2, .int .i64 0] 3)).heap.size = N + 1 := by simp [hN]
  rw [e1] at h2
  have hrm := rm_one (l := [1, 2, 0]) (n := 3) rfl h2
  have h3 := h2.lit' [2, 1, 0] #[.int .i64 2, .int .i64 1, .int .i64 0] rfl 3 rfl (by omega) 3 (N + 1 + 1) (by simp [hN])
  have hA : AllPn 3 (lsR [((some ⟨N, 0, none⟩, 3, [1, 2, 0]) : Rw)]) := fun p hp => by
    have hp : p ∈ [[1, 2, 0]] := hp
    rw [List.mem_singleton] at hp; subst hp
    exact ring3.gens _ (by decide)
  have HL0 := Lib.hid (orbLeast 3 [(some ⟨N, 0, none⟩, 3, [1, 2, 0])] 1 _ 1 [2, 1, 0] _ 3 _ (hrm.keep (kin_alloc (Below.refl _ _) _)) rfl (by omega) (by omega) hA (h3.get 0 rfl) rfl (by omega))
  have HF0 := Lib.hid h3
  clear h1 h2 h3 hrm hA e1
  go_enter Try.func14, Try.ntmps14
  go_wp2_with fail
  refine HL0.out.mono ?_; rintro e w1 ⟨G0, hg0, ad1, cp1, rfl, hf1⟩
  obtain rfl : rotL 3 = G0 := IsGrp.uniq hg0 ring3
  rw [least3] at hf1
  obtain ⟨M, hM⟩ : ∃ M, w1.heap.size = M := ⟨_, rfl⟩
  have h4 := (HF0.out.call hf1).lit' [0, 2, 1] #[.int .i64 0, .int .i64 2, .int .i64 1] rfl 3 rfl (by omega) 3 M hM
  have HE := Lib.hid (slEqual [0, 2, 1] [0, 2, 1] 3 3 _ _ cp1 3 _ (h4.get 1 rfl) (h4.get 0 rfl) rfl rfl (by omega) (by omega))
  rw [decide_eq_true (rfl : ([0, 2, 1] : List Int) = [0, 2, 1])] at HE
  have HF1 := Lib.hid h4.below
  clear h4 hf1 hg0 HF0 HL0
  go_wp2_with fail
  refine HE.out.mono ?_; rintro e w2 ⟨rfl, hf2⟩
  have HF2 := Lib.hid (HF1.out.keep hf2.bel)
  clear hf2 HE HF1
  go_wp2_with fail
  refine (turnsOk _).mono ?_; rintro e w3 ⟨rfl, hf3⟩
  have HF3 := Lib.hid (HF2.out.keep hf3.bel)
  clear hf3 HF2
  go_wp2_with fail
  refine (HW0 _).out.mono ?_; rintro e w' ⟨rfl, rfl⟩
  have hmin := HMIN.out
  go_wp2_with fail
  clear hmin HMIN HW0
  have HCl := Lib.hid (slClone (z0.take t) t a2 cap2 w3 (by rw [← ints_take]; exact (HF3.out.old HRow.out).take t) (by rw [List.length_take, HZ0.out]; omega) (by omega))
  refine HCl.out.mono ?_; rintro e w4 ⟨ad4, cp4, rfl, hc4, hf4⟩
  have HF4 := Lib.hid hf4
  have HL4 : Hid ((z0.take t).length = t) := Lib.hid (by rw [List.length_take, HZ0.out]; omega)
  clear hf4 HCl
  have t6 : t ≤ n := by omega
  go_wp2_with fail
  go_loopw [2] (fun x wr => ∃ (l : List Int) (len : Nat) (xd : Option Addr) (xc : Nat), x = .slice xd len xc ∧ Hid (l.length = len) ∧ len ≤ xc ∧ len ≤ n ∧ Hid (Fr w3 wr [⟨3, .slice xd len xc, ints l⟩])) (fun x _ => n - (match x with | .slice _ len _ => len | _ => 0))
  case atStart => exact ⟨_, t, ad4, cp4, rfl, HL4, hc4, t6, HF4⟩
  case round =>
    clear HF4 HL4 hc4 t6 HZ0 HRow
    obtain ⟨z, len, xd, xc, rfl, HLl, hxc, hls, HF⟩ := hrel
    by_cases hlt2 : len < n
    · have d1 : (len : Int) < (n : Int) := by omega
      obtain ⟨N, hN⟩ : ∃ N, wr.heap.size = N := ⟨_, rfl⟩
      go_wp2_with (with_reducible refine at_slot 60 ?_; go_must (refine wpList_pushInt' rfl (.tmp 58) (.tmp 59) rfl xd len xc z 0 _ N hN rfl HF.out rfl (by omega) ?_); intro xd2 xc2 w3 hf3 hsz3)
      have hcap : len + 1 ≤ xc2 := hf3.cap
      exact ⟨⟨z ++ [0], len + 1, xd2, xc2, rfl, Lib.hid (by rw [List.length_append, HLl.out]; rfl), hcap, by omega, Lib.hid hf3⟩, by simp only []; omega⟩
    · obtain rfl : len = n := by omega
      have HMo := Lib.hid (movedAny len (by omega) a m cap wr ((HMat.out.keep HF3.out.bel).keep HF.out.bel))
      have HF5 := Lib.hid (HF3.out.keep HF.out.bel)
      have HS5 := Lib.hid (HF.out.get 0 rfl)
      clear HF HF3 HMat
      go_wp2_with fail
      refine HMo.out.mono ?_; rintro e w5 ⟨ad5, cp5, R, rfl, hR6, hAll, hf5⟩
      obtain ⟨r, hr⟩ : ∃ r, R.length = r := ⟨_, rfl⟩
      rw [hr] at hR6 hf5 ⊢
      have HRl := Lib.hid hr
      have HRm := Lib.hid (hf5.rmR List.mem_cons_self fun p hp => List.mem_cons_of_mem _ (List.mem_map_of_mem hp))
      have HAll := Lib.hid hAll
      have HF6 := Lib.hid (HF5.out.keep hf5.bel)
      have HS6 := Lib.hid (HS5.out.keep hf5.bel)
      clear hr hAll hf5 HF5 HS5 HMo
      have HGr := Lib.hid (orbGroup len R r ad5 cp5 w5 HRm.out HRl.out (by omega) hR6 HAll.out)
      go_wp2_with fail
      refine HGr.out.mono ?_; rintro e w6 ⟨ad6, cp6, S, rfl, hf6, hg⟩
      obtain ⟨s, hs⟩ : ∃ s, S.length = s := ⟨_, rfl⟩
      rw [hs] at hf6 ⊢
      have HSl := Lib.hid hs
      have hs0 : 0 < s := by have := hg.pos; rwa [lsR_len, hs] at this
      have hs720 : s ≤ 720 := by
        have h1 := hg.len
        rw [lsR_len, hs] at h1
        have := fac6 len (by omega); omega
      have HG := Lib.hid hg
      have HSm := Lib.hid (hf6.rmR List.mem_cons_self fun p hp => List.mem_cons_of_mem _ (List.mem_map_of_mem hp))
      have HF7 := Lib.hid (HF6.out.keep hf6.bel)
      have HS7 := Lib.hid (HS6.out.keep hf6.bel)
      have HRm7 := Lib.hid (HRm.out.keep hf6.bel)
      clear hs hg hf6 HF6 HS6 HGr HRm
      have HLe := Lib.hid (orbLeast len R r ad5 cp5 z xd xc w6 HRm7.out HRl.out (by omega) hR6 HAll.out HS7.out HLl.out hxc)
      go_wp2_with fail
      refine HLe.out.mono ?_; rintro e w7 ⟨G', hg', ad7, cp7, rfl, hf7⟩
      obtain rfl : lsR S = G' := (IsGrp.uniq HG.out hg').symm
      have hlb := least_len HG.out HLl.out
      have hself := least_self HG.out HLl.out
      have hperm := least_perm HG.out HLl.out
      have hle := least_le HG.out HLl.out HG.out.one
      rw [actL_one HLl.out] at hle
      obtain ⟨b, hb⟩ : ∃ b, leastL (lsR S) z = b := ⟨_, rfl⟩
      have HTurn : Hid (∀ g ∈ lsR S, leastL (lsR S) (actL g z) = b) := Lib.hid fun g hg => by rw [least_turn HG.out HLl.out hg, hb]
      rw [hb] at hf7 hlb hself hperm hle
      have HLb := Lib.hid hlb; have HSelf := Lib.hid hself; have HPerm := Lib.hid (srtI_eq hperm); have HLeq := Lib.hid hle
      have HF8 := Lib.hid (HF7.out.keep hf7.bel)
      have HBn : Hid (LBun w7 ad5 R ad6 S xd z ad7 b) := Lib.hid ⟨HRm7.out.keep hf7.bel, HSm.out.keep hf7.bel, HS7.out.keep hf7.bel, hf7.get 0 rfl⟩
      have hbc7 : len ≤ cp7 := hf7.cap
      clear hg' hb hf7 hlb hself hperm hle HF7 HS7 HRm7 HSm HLe
      go_wp2_with fail
      refine (good2b _ w7.heap.size _ rfl).mono ?_; rintro e w' ⟨rfl, rfl⟩
      have HF9 := Lib.hid (HF8.out.alloc (.cells #[.int .i64 0, .int .i64 0] 23))
      have HBn2 := Lib.hid (HBn.out.keep ((Fr.start w7).alloc (.cells #[.int .i64 0, .int .i64 0] 23)).bel)
      obtain ⟨W, hW⟩ : ∃ W, w7.alloc (.cells #[.int .i64 0, .int .i64 0] 23) = W := ⟨_, rfl⟩
      rw [hW] at HF9 HBn2 ⊢
      clear hW HF8 HBn
      have g1 : ((s : Int) == 0) = false := by rw [beq_eq_false_iff_ne]; omega
      obtain ⟨i, hi, his⟩ : ∃ i : Nat, a3 % (s : Int) = i ∧ i < s := ⟨(a3 % (s : Int)).toNat, by have := Int.emod_nonneg a3 (b := (s : Int)) (by omega); omega, by have := Int.emod_lt_of_pos a3 (b := (s : Int)) (by omega); have := Int.emod_nonneg a3 (b := (s : Int)) (by omega); omega⟩
      have HWi := fun w' => Lib.hid (within_any a3 s w' (by omega) (by omega))
      rw [hi] at HWi
      have hiS : i < S.length := by rw [HSl.out]; exact his
      obtain ⟨b1, o1, rfl, hb1, c1, s1⟩ := HBn2.out.r2.at i hiS
      have hmem : S[i].2.2 ∈ lsR S := List.mem_map.2 ⟨_, List.getElem_mem hiS, rfl⟩
      have hpn := HG.out.pn hmem
      have htu := HTurn.out _ hmem
      obtain ⟨⟨x1, y1, l1⟩, hp1⟩ : ∃ p : Rw, S[i] = p := ⟨_, rfl⟩
      rw [hp1] at c1 s1 hpn htu
      simp only [rv] at c1
      simp only at s1 hpn htu
      rw [hpn.1] at c1
      have HPn := Lib.hid hpn; have HS1 := Lib.hid s1; have HTu := Lib.hid htu
      have d1 : (0 : Int) ≤ (i : Int) := by omega
      have d2 : (i : Int) < (s : Int) := by omega
      have g2 : ((len : Int) != (len : Int)) = false := by simp
      have hmk := make_ints len (by omega)
      clear hi hp1 s1 hpn htu hmem HTurn
      go_wp2_with fail
      refine (HWi _).out.mono ?_; rintro e w' ⟨rfl, rfl⟩
      go_wp2_with fail
      clear hmk HWi c1 d1 d2 g1 g2
      obtain ⟨P, hP⟩ : ∃ P, W.heap.size = P := ⟨_, rfl⟩
      have h8 := (Fr.start W).makeInts len (by omega)
      rw [hP] at h8 ⊢
      have HM8 := Lib.hid h8
      clear h8
      go_loopw [102] (fun i wr' => ∃ q : Nat, q ≤ len ∧ i = .int .i64 q ∧ Hid (Fr W wr' [⟨3, .slice (some ⟨P, 0, none⟩) len len, ints (turnK l1 z len q)⟩])) (fun i _ => len - (intOf i).toNat)
      case atStart => exact ⟨0, by omega, rfl, HM8⟩
      case round =>
        clear HM8
        obtain ⟨q, hq, rfl, HF⟩ := hrel
        by_cases hlt3 : q < len
        · obtain ⟨b2, o2, rfl, hb2, c2⟩ := (HS1.out.keep HF.out.bel).int q (by rw [HPn.out.1]; exact hlt3)
          obtain ⟨b3, o3, rfl, hb3, c3⟩ := (HBn2.out.s1.keep HF.out.bel).int q (by rw [HLl.out]; exact hlt3)
          have hx := HPn.out.2.at q (by rw [HPn.out.1]; exact hlt3)
          have hst : (turnK l1 z len q).set (nth l1 q).toNat (nth z q) = turnK l1 z len (q + 1) := rfl
          obtain ⟨x, hxx⟩ : ∃ x, (nth l1 q).toNat = x := ⟨_, rfl⟩
          rw [hxx] at hx hst
          rw [← hx.2] at c2
          obtain ⟨_, e, _, c1, z1⟩ := HF.out.openI x (by rw [turnK_len, ← HPn.out.1]; exact hx.1)
          cases e
          obtain ⟨v, hv⟩ : ∃ v, nth z q = v := ⟨_, rfl⟩
          rw [hv] at c3 hst
          have F4 := HF.out.setInt x v
          rw [hst] at F4
          have HF4 := Lib.hid F4
          have xn : x < len := by rw [← HPn.out.1]; exact hx.1
          obtain ⟨u, hu⟩ : ∃ u, nth (turnK l1 z len q) x = u := ⟨_, rfl⟩
          rw [hu] at c1
          clear hx hxx hst F4 hu hv
          have d1 : (0 : Int) ≤ (q : Int) := by omega
          have d2 : (q : Int) < (len : Int) := by omega
          have d3 : (0 : Int) ≤ (x : Int) := by omega
          have d4 : (x : Int) < (len : Int) := by omega
          have d5 : decide ((x : Int) < 0) = false := decide_eq_false (by omega)
          have d6 : decide ((len : Int) ≤ (x : Int)) = false := decide_eq_false (by omega)
          go_wp2_with fail
          exact ⟨⟨q + 1, by omega, by simp, HF4⟩, by simp only [intOf]; omega⟩
        · obtain rfl : q = len := by omega
          have hT := HF.out
          rw [turnK_all HPn.out] at hT
          have hal := actL_len HPn.out z
          obtain ⟨A, hA⟩ : ∃ A, actL l1 z = A := ⟨_, rfl⟩
          rw [hA] at hT hal HTu
          have HF10 := Lib.hid (HF9.out.keep HF.out.bel)
          have HBn3 := Lib.hid (HBn2.out.keep HF.out.bel)
          have HT := Lib.hid hT
          have HAl := Lib.hid hal
          clear hA hT hal HF9 HBn2 HF
          have HL1 := Lib.hid (orbLeast q R r ad5 cp5 A _ q wr HBn3.out.r1 HRl.out (by omega) hR6 HAll.out (HT.out.get 0 rfl) HAl.out (Nat.le_refl _))
          go_wp2_with fail
          refine HL1.out.mono ?_; rintro e w8 ⟨G', hg', ad8, cp8, rfl, hf8⟩
          obtain rfl : lsR S = G' := (IsGrp.uniq HG.out hg').symm
          rw [HTu.out] at hf8
          have HF11 := Lib.hid (HF10.out.keep hf8.bel)
          have HBn4 := Lib.hid (HBn3.out.keep hf8.bel)
          have HC8 := Lib.hid (hf8.get 0 rfl)
          clear hg' hf8 HL1 HF10 HBn3
          have HL2 := Lib.hid (orbLeast q R r ad5 cp5 b ad7 cp7 w8 HBn4.out.r1 HRl.out (by omega) hR6 HAll.out HBn4.out.s2 HLb.out hbc7)
          go_wp2_with fail
          refine HL2.out.mono ?_; rintro e w9 ⟨G', hg', ad9, cp9, rfl, hf9⟩
          obtain rfl : lsR S = G' := (IsGrp.uniq HG.out hg').symm
          rw [HSelf.out] at hf9
          have HF12 := Lib.hid (HF11.out.keep hf9.bel)
          have HBn5 := Lib.hid (HBn4.out.keep hf9.bel)
          have HC9 := Lib.hid (HC8.out.keep hf9.bel)
          have HD9 := Lib.hid (hf9.get 0 rfl)
          clear hg' hf9 HL2 HF11 HBn4 HC8
          have HK1 := Lib.hid (slClone z q xd xc w9 HBn5.out.s1 HLl.out (by omega))
          go_wp2_with fail
          refine HK1.out.mono ?_; rintro e w10 ⟨ad10, cp10, rfl, hc10, hf10⟩
          have HX10 := Lib.hid hf10
          clear hf10 HK1
          have HK2 := Lib.hid (slClone b q ad7 cp7 w10 (HBn5.out.s2.keep HX10.out.bel) HLb.out (by omega))
          go_wp2_with fail
          refine HK2.out.mono ?_; rintro e w11 ⟨ad11, cp11, rfl, hc11, hf11⟩
          have HX11 := Lib.hid ((HX10.out.call hf11).swap)
          clear hf11 HK2 HX10
          go_wp2_with fail
          refine (slSortAll z q cp10 ad10 w11 HX11.out (by omega)).mono ?_; rintro e w12 ⟨rfl, hf12⟩
          have HX12 := Lib.hid hf12.swap
          clear hf12 HX11
          go_wp2_with fail
          refine (slSortAll b q cp11 ad11 w12 HX12.out (by omega)).mono ?_; rintro e w13 ⟨rfl, hf13⟩
          rw [HPerm.out] at hf13
          have HX13 := Lib.hid hf13
          have HBn6 := Lib.hid (HBn5.out.keep hf13.bel)
          have HC13 := Lib.hid (HC9.out.keep hf13.bel)
          have HD13 := Lib.hid (HD9.out.keep hf13.bel)
          have HF13 := Lib.hid (HF12.out.keep hf13.bel)
          clear hf13 HX12 HBn5 HC9 HD9 HF12
          go_wp2_with fail
          refine (good2b _ w13.heap.size _ rfl).mono ?_; rintro e w' ⟨rfl, rfl⟩
          have HF14 := Lib.hid (HF13.out.alloc (.cells #[.int .i64 0, .int .i64 0] 23))
          have hk14 := ((Fr.start w13).alloc (.cells #[.int .i64 0, .int .i64 0] 23)).bel
          have HBn7 := Lib.hid (HBn6.out.keep hk14)
          have HC14 := Lib.hid (HC13.out.keep hk14)
          have HD14 := Lib.hid (HD13.out.keep hk14)
          have HX14 := Lib.hid (HX13.out.alloc (.cells #[.int .i64 0, .int .i64 0] 23))
          clear hk14 HF13 HBn6 HC13 HD13 HX13
          have HE1 := Lib.hid (slEqual b b q q ad7 ad8 cp7 cp8 _ HBn7.out.s2 HC14.out HLb.out HLb.out (by omega) (by omega))
          rw [decide_eq_true (rfl : b = b)] at HE1
          go_wp2_with fail
          refine HE1.out.mono ?_; rintro e w15 ⟨rfl, hf15⟩
          have HF15 := Lib.hid (HF14.out.keep hf15.bel)
          have HBn8 := Lib.hid (HBn7.out.keep hf15.bel)
          have HD15 := Lib.hid (HD14.out.keep hf15.bel)
          have HX15 := Lib.hid (HX14.out.keep hf15.bel)
          clear hf15 HE1 HF14 HBn7 HD14 HX14
          have HE2 := Lib.hid (slEqual b b q q ad7 ad9 cp7 cp9 _ HBn8.out.s2 HD15.out HLb.out HLb.out (by omega) (by omega))
          rw [decide_eq_true (rfl : b = b)] at HE2
          go_wp2_with fail
          refine HE2.out.mono ?_; rintro e w16 ⟨rfl, hf16⟩
          have HF16 := Lib.hid (HF15.out.keep hf16.bel)
          have HBn9 := Lib.hid (HBn8.out.keep hf16.bel)
          have HX16 := Lib.hid (HX15.out.keep hf16.bel)
          clear hf16 HE2 HF15 HBn8 HX15
          have HE3 := Lib.hid (slEqual (srtI z) (srtI z) q q ad10 ad11 cp10 cp11 _ (HX16.out.get 1 rfl) (HX16.out.get 0 rfl) (by rw [srtI_len]; exact HLl.out) (by rw [srtI_len]; exact HLl.out) (by omega) (by omega))
          rw [decide_eq_true (rfl : srtI z = srtI z)] at HE3
          go_wp2_with fail
          refine HE3.out.mono ?_; rintro e w17 ⟨rfl, hf17⟩
          have HF17 := Lib.hid (HF16.out.keep hf17.bel)
          have HBn10 := Lib.hid (HBn9.out.keep hf17.bel)
          clear hf17 HE3 HF16 HBn9 HX16
          have HE4 := Lib.hid (slCompare b z (.slice ad7 q cp7) (.slice xd q xc) w17 (Sa.sl' HBn10.out.s2 q cp7 HLb.out) (Sa.sl' HBn10.out.s1 q xc HLl.out) (by rw [HLb.out, HLl.out]) (by rw [HLb.out]; omega))
          have gg : decide (lexC b z ≤ 0) = true := decide_eq_true HLeq.out
          go_wp2_with fail
          refine HE4.out.mono ?_; rintro e w' ⟨rfl, rfl⟩
          go_wp2_with fail
          go_ret
          exact ⟨rfl, HF17.out.bel⟩
end Go.Proofs.Ytdabgibmbmhmdaa
