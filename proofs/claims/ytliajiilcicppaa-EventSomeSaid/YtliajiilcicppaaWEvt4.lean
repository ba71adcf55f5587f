/- The walk of the law EventSome. -/
import Derived.Test.YtliajiilcicppaaEvtB
import Derived.Test.YtliajiilcicppaaWEvt1
namespace Go.Proofs.Ytliajiilcicppaa
open Go.RowKit

set_option maxRecDepth 100000 in
set_option maxHeartbeats 4000000 in
theorem evSome_no (l : List Int) (ss : List Nat) (n m : Nat) (a b : Option Addr) (ca cb : Nat) (w : World) (h : Sa w a (ints l)) (h' : Sa w b (hws ss)) (hn : l.length = n) (hm : ss.length = m) (hs : ∀ s ∈ ss, s < 65536) (hm2 : m ≤ 12) (er : Int) (he : chkE l ss = er) (h0 : er ≠ 0) :
    Calls Try.prog 27 #[.slice a n ca, .slice b m cb, .int .i64 1] w fun e w' => e = .returned (.tuple #[.agg #[.int .i64 0, .int .i64 0], .int .i64 er]) ∧ Below w.heap.size w w' := by
  have HN := Lib.hid hn; have HM := Lib.hid hm; have HS := Lib.hid (h.alloc (.cells #[.int .i64 0, .int .i64 0] 23)); have HS' := Lib.hid (h'.alloc (.cells #[.int .i64 0, .int .i64 0] 23)); have H16 := Lib.hid hs
  have HE := Lib.hid he
  have z : (er != 0) = true := by rw [bne_iff_ne]; exact h0
  clear hn hm h h' hs he h0
  go_enter Try.func27, Try.ntmps27
  go_wp2_with fail
  refine (evChk l ss n m _ _ _ _ _ HS.out HS'.out HN.out HM.out H16.out (by omega)).mono ?_; rintro e w' ⟨rfl, rfl⟩
  rw [HE.out]
  go_wp2_with fail
  exact bodyPost_ret (v := .tuple #[.agg #[.int .i64 0, .int .i64 0], .int .i64 er]) (by simp [results, Try.results27, go_sem]) rfl
    ⟨rfl, kin_alloc (Below.refl _ _) _⟩

theorem and1_64 : ∀ t : Nat, t < 64 → bits .and .i64 (t : Int) 1 = ((t % 2 : Nat) : Int) := by decide +kernel
theorem wrap_pow : ∀ m : Nat, m < 7 → wrap64 (2 ^ m) = ((2 ^ m : Nat) : Int) := by decide +kernel
theorem redIs_parts {p q X Y : Int} (h : RedIs p q X Y) (hq : 0 < q) : ∃ D, 0 < D ∧ Y * D = q ∧ X * D = p ∧ 0 < Y := by
  obtain ⟨rfl, rfl⟩ := h
  exact ⟨redG p q, redG_pos p q hq, redQ_mul p q, redP_mul p q, redQ_pos p q hq⟩
theorem run_max2 (ts : Array TypeId) (t : TypeId) (x y : Int) (w : World) : Sem.run Try.prog (Builtin.max_ ts t #[.int .i64 x, .int .i64 y]) w = .ok (.int .i64 (max x y)) w := by
  simp only [Builtin.max_, List.foldlM_cons, List.foldlM_nil, Builtin.max2, pure_bind]
  rw [show (if x < y then y else x) = max x y from by omega]
  rfl
theorem isum_snocE : ∀ (l : List Int) (x : Int), isum (l ++ [x]) = isum l + x
  | [], x => by simp [isum]
  | y :: r, x => by rw [List.cons_append, isum, isum, isum_snocE r x]; omega
theorem popM_le (s : Nat) : ∀ i, popM s i ≤ i
  | 0 => Nat.le_refl _
  | i + 1 => by rw [popM]; have := popM_le s i; omega
theorem all_sub (n : Nat) (h1 : 1 ≤ n) (h : n ≤ 12) : IntKind.u16.wrap (IntKind.u16.wrap (2 ^ n) - 1) = ((2 ^ n - 1 : Nat) : Int) := by
  have : n = 1 ∨ n = 2 ∨ n = 3 ∨ n = 4 ∨ n = 5 ∨ n = 6 ∨ n = 7 ∨ n = 8 ∨ n = 9 ∨ n = 10 ∨ n = 11 ∨ n = 12 := by omega
  rcases this with rfl | rfl | rfl | rfl | rfl | rfl | rfl | rfl | rfl | rfl | rfl | rfl <;> decide
theorem Fr.new' {w0 w : World} {L : List Ent} (h : Fr w0 w L) (T : TypeId) (cs : Array Value) (xs : List Value) (e : cs.toList = xs) (n : Nat) (hn : n = xs.length) (hl : n ≤ 1000000) (N : Nat) (hN : w.heap.size = N) :
    Fr w0 (w.alloc (.cells cs T)) (⟨T, .slice (some ⟨N, 0, .none⟩) n n, xs⟩ :: L) := by subst hN; exact h.new T cs xs e n hn hl
set_option maxRecDepth 100000 in
set_option maxHeartbeats 8000000 in
theorem eventSome_any (l : List Int) (n : Nat) (a : Option Addr) (ca : Nat) (s0 : List Nat) (m0 : Nat) (b : Option Addr) (cb : Nat) (w : World) (h : Sa w a (ints l)) (hn : l.length = n) (h' : Sa w b (hws s0)) (hm0 : s0.length = m0) (hcb : m0 ≤ cb) (h16 : ∀ s ∈ s0, s < 65536) :
    Calls Try.prog 7 #[.slice a n ca, .slice b m0 cb] w fun e w' => e = .returned (.bool true) ∧ Below w.heap.size w w' := by
  obtain ⟨m, n1, n2, n3⟩ : ∃ m : Nat, m ≤ m0 ∧ (m : Int) ≤ (6 : Int) ∧ (m = m0 ∨ (m : Int) = (6 : Int)) := ⟨min m0 6, by omega, by omega, by omega⟩
  have HMIN := Lib.hid (run_min2 #[3, 3] 3 m0 6 m n1 n2 n3)
  obtain ⟨ss, hss⟩ : ∃ ss, s0.take m = ss := ⟨_, rfl⟩
  have HS' : Hid (Sa w b (hws ss)) := Lib.hid (by rw [← hss]; have := h'.take m; unfold hws at this ⊢; rwa [← List.map_take] at this)
  have HM : Hid (ss.length = m) := Lib.hid (by rw [← hss, List.length_take]; omega)
  have H16 : Hid (∀ s ∈ ss, s < 65536) := Lib.hid (fun s hs => h16 s (by rw [← hss] at hs; exact List.mem_of_mem_take hs))
  have HS := Lib.hid h; have HN := Lib.hid hn
  have b1 : (m : Int) ≤ (cb : Int) := by omega
  have hm6 : m ≤ 6 := by omega
  clear h hn h' hm0 h16 hss n3
  have q1 : chkE [1, 1, 1, 1] [3, 6] = 0 := by decide +kernel
  have q2 : chkE [1, 1, 1, 1] [someIn [3, 6] 4] = 0 := by decide +kernel
  have q3 : RedIs (wtL [1, 1, 1, 1] (someIn [3, 6] 4)) (isum [1, 1, 1, 1]) 3 4 := ⟨by decide +kernel, by decide +kernel⟩
  have q4 : ∀ s ∈ [3, 6], s < 65536 := by decide
  have Q1 := Lib.hid q1; have Q2 := Lib.hid q2; have Q3 := Lib.hid q3; have Q4 := Lib.hid q4
  clear q1 q2 q3 q4
  go_enter Try.func7, Try.ntmps7
  go_wp2_with fail
  have F1 := ((Fr.start w).lit [1, 1, 1, 1] #[.int .i64 1, .int .i64 1, .int .i64 1, .int .i64 1] rfl 4 rfl (by omega) 3).new' 37 #[.int .u16 3, .int .u16 6] (hws [3, 6]) rfl 2 rfl (by omega) (w.heap.size + 1) (by simp)
  have G1 := F1.get 1 rfl
  have G0 := F1.get 0 rfl
  refine (evSome [1, 1, 1, 1] [3, 6] 4 2 _ _ _ _ _ G1 G0 rfl rfl Q4.out (by omega) Q1.out 3 4 Q2.out Q3.out).mono ?_; rintro e w1 ⟨rfl, hb⟩
  have hf2 := (F1.keep hb).below.new 23 #[.int .i64 3, .int .i64 4] [.int .i64 3, .int .i64 4] rfl 2 rfl (by omega)
  obtain ⟨_, e, _, _, hcr, _⟩ := hf2.open (by simp)
  cases e
  have c0 := hcr 0 (by simp)
  have c1 := hcr 1 (by simp)
  have HF2 := Lib.hid hf2.below
  clear hcr hf2 hb F1
  go_wp2_with fail
  refine (events_any _).mono ?_; rintro e w2 ⟨rfl, hb⟩
  have HF3 := Lib.hid (HF2.out.keep hb)
  clear hb c0 c1
  have hmin := HMIN.out
  go_wp2_with fail
  clear hmin
  by_cases he : chkE l ss = 0
  · obtain ⟨k1, k12, hp, hlt⟩ := chkE_ok he
    have hT := isum_bdP l hp k1
    have hsome := someIn_lt ss n
    have hck1 : chkE l [someIn ss n] = 0 := chkE_yes k1 k12 hp (fun s hs => by rw [List.mem_singleton] at hs; rw [hs, HN.out]; exact hsome)
    obtain ⟨X, Y, hXY⟩ : ∃ X Y, RedIs (wtL l (someIn ss n)) (isum l) X Y := ⟨_, _, rfl, rfl⟩
    obtain ⟨D, hD, hYD, hXD, hY0⟩ := redIs_parts hXY (by omega)
    have hA := wtL_bd l (someIn ss n) hp
    rw [HN.out] at k1 k12 hT hA
    obtain ⟨T, hTT⟩ : ∃ T, isum l = T := ⟨_, rfl⟩
    obtain ⟨A, hAA⟩ : ∃ A, wtL l (someIn ss n) = A := ⟨_, rfl⟩
    rw [hTT] at hT hYD
    rw [hAA] at hA hXD
    have hA0 := hA.1
    have hA12 : A ≤ 1200 := by omega
    have hT1 := hT.1
    have hT12 : T ≤ 1200 := by omega
    have hX0 : 0 ≤ X := by
      by_cases c : X < 0
      · have := Int.mul_neg_of_neg_of_pos c hD; omega
      · omega
    have hXA : X ≤ A := by have : X * 1 ≤ X * D := Int.mul_le_mul_of_nonneg_left (by omega) hX0; omega
    have hYT : Y ≤ T := Int.le_of_dvd hT1 ⟨D, hYD.symm⟩
    have hDT : D ≤ T := Int.le_of_dvd hT1 ⟨Y, by rw [Int.mul_comm]; exact hYD.symm⟩
    have q1 : T.tmod Y = 0 := by rw [← hYD]; exact Int.mul_tmod_right Y D
    have q2 : T.tdiv Y = D := by rw [← hYD]; exact Int.mul_tdiv_cancel_left D (by omega)
    have q3 : T % Y = 0 := by rw [← hYD]; exact Int.mul_emod_right Y D
    have q4 : T / Y = D := by rw [← hYD]; exact Int.mul_ediv_cancel_left D (by omega)
    have q5 : IntKind.i64.wrap (T.tdiv Y) = D := by rw [q2, IntKind.wrap_i64]; omega
    have HCK := Lib.hid hck1; have HXY := Lib.hid hXY; have HE := Lib.hid he; have HP := Lib.hid hp; have HLT := Lib.hid hlt
    have HT := Lib.hid hTT; have HA := Lib.hid hAA; have HALL := Lib.hid (all_sub n k1 k12)
    have QA := Lib.hid (And.intro q1 (And.intro q2 (And.intro q3 (And.intro q4 (And.intro q5 hXD)))))
    clear he hp hlt hT hsome hck1 hXY hYD hXD hA hTT hAA q1 q2 q3 q4 q5
    refine (evSome l ss n m _ _ _ _ _ (HF3.out.old HS.out) (HF3.out.old HS'.out) HN.out HM.out H16.out (by omega) HE.out X Y HCK.out HXY.out).mono ?_; rintro e w3 ⟨rfl, hb⟩
    have hf4 := (HF3.out.keep hb).new 23 #[.int .i64 X, .int .i64 Y] [.int .i64 X, .int .i64 Y] rfl 2 rfl (by omega)
    obtain ⟨_, e, _, hlt4, hcr, _⟩ := hf4.open (by simp)
    cases e
    have hc0 := hcr 0 (by simp)
    have hc1 := hcr 1 (by simp)
    have HF4 := Lib.hid hf4.below
    have d1 : decide ((12 : Int) < (n : Int)) = false := decide_eq_false (by omega)
    have hall := HALL.out
    clear hcr hf4 hb hlt4
    go_wp2_with fail
    clear hall
    obtain ⟨U, hU⟩ : ∃ U, 2 ^ n - 1 = U := ⟨_, rfl⟩
    have hUlt : U < 4096 := by have : 2 ^ n ≤ 4096 := Nat.pow_le_pow_right (n := 2) (by omega) (show n ≤ 12 by omega); omega
    have HU := Lib.hid hU
    rw [hU]
    clear hU
    go_loop [10, 70] (fun s10 s70 => ∃ (k : Nat) (V : Int), k ≤ n ∧ s70 = .int .i64 k ∧ s10 = .int .i64 V ∧ 0 ≤ V ∧ V ≤ 100 * k ∧ Hid (isum (l.take k) = V)) (fun _ s => n - (intOf s).toNat)
    case atStart => exact ⟨0, 0, by omega, rfl, rfl, by omega, by omega, Lib.hid rfl⟩
    case round =>
      obtain ⟨k, V, hk, rfl, rfl, v1, v2, HV⟩ := hrel
      by_cases hlt : k < n
      · obtain ⟨b', off, rfl, hb, hc⟩ := (HF4.out.old HS.out).int k (by rw [HN.out]; exact hlt)
        have hbd := HP.out (nth l k) (nth_mem l k (by rw [HN.out]; exact hlt))
        have hst : isum (l.take (k + 1)) = V + nth l k := by rw [take_nth l k (by rw [HN.out]; exact hlt), isum_snocE, HV.out]
        obtain ⟨x, hx⟩ : ∃ x, nth l k = x := ⟨_, rfl⟩
        rw [hx] at hc hbd hst
        have HST := Lib.hid hst
        obtain ⟨x1, x2⟩ := hbd
        have e1 : (0 : Int) ≤ (k : Int) := by omega
        have e2 : (k : Int) < (n : Int) := by omega
        clear hx hst HV
        go_wp2_with fail
        exact ⟨⟨k + 1, V + x, by omega, by simp, rfl, by omega, by omega, HST⟩, by simp only [intOf]; omega⟩
      · obtain rfl : k = n := by omega
        obtain rfl : V = T := by rw [← HV.out, ← HT.out, List.take_of_length_le (by rw [HN.out]; exact Nat.le_refl _)]
        clear v1 v2 HV
        obtain ⟨q1, q2, q3, q4, q5, q6⟩ := QA.out
        have hmax : ∀ W, Sem.run Try.prog (Builtin.max_ #[3, 3] 3 #[.int .i64 1, .int .i64 Y]) W = .ok (.int .i64 Y) W := fun W => by rw [run_max2, show max 1 Y = Y by omega]
        go_wp2_with fail
        go_quiet (fail)
        clear hmax q1 q2 q3 q4 q5 q6
        have HF5 : Hid (Fr w ((w3.alloc (.cells #[.int .i64 X, .int .i64 Y] 23)).drewN nq) []) := Lib.hid (HF4.out.drewN nq)
        obtain ⟨w5, hw5⟩ : ∃ w5, (w3.alloc (.cells #[.int .i64 X, .int .i64 Y] 23)).drewN nq = w5 := ⟨_, rfl⟩
        rw [hw5] at HF5 ⊢
        clear hw5 hc0 hc1 d1 HCK HXY HALL HF4 HF3 HF2 G0 G1 hk hlt hX0 hXA hD hY0 hYT hDT
        have HZ0 : Hid (stZ l ss m 0 0 = 0) := Lib.hid (st_zero l ss m)
        go_wp2_with fail
        go_loopw [14, 15] (fun s14 s15 wr => ∃ (z : Nat) (S : Int), z ≤ m ∧ s15 = .int .i64 ((z : Int) + 1) ∧ s14 = .int .i64 S ∧ -(76800 * (z : Int)) ≤ S ∧ S ≤ 76800 * (z : Int) ∧ Hid (stZ l ss m z 0 = S) ∧ Hid (Fr w wr [])) (fun _ s _ => m + 1 - (intOf s).toNat)
        case atStart => exact ⟨0, 0, by omega, rfl, rfl, by omega, by omega, HZ0, HF5⟩
        case round =>
          obtain ⟨z, S, hz, rfl, rfl, z1, z2, HS0, HF⟩ := hrel
          by_cases hlt : z < m
          · have g1 : decide ((z : Int) + 1 ≤ (m : Int)) = true := decide_eq_true (by omega)
            have hsh := wrap_pow m (by omega)
            have hM64 : 2 ^ m ≤ 64 := Nat.pow_le_pow_right (n := 2) (by omega) hm6
            have hnx := st_next l ss m z
            have hM1 := Nat.two_pow_pos m
            obtain ⟨M, hM⟩ : ∃ M, 2 ^ m = M := ⟨_, rfl⟩
            rw [hM] at hM64 hnx hM1 hsh
            have HNX := Lib.hid hnx
            clear hnx hM
            go_wp2_with fail
            rw [hsh]
            clear hsh
            go_loopw [14, 95] (fun s14 s95 wr => ∃ (s : Nat) (S : Int), s ≤ M ∧ s95 = .int .i64 s ∧ s14 = .int .i64 S ∧ -(76800 * (z : Int) + 1200 * (s : Int)) ≤ S ∧ S ≤ 76800 * (z : Int) + 1200 * (s : Int) ∧ Hid (stZ l ss m z s = S) ∧ Hid (Fr w wr [])) (fun _ s _ => M - (intOf s).toNat)
            case atStart => exact ⟨0, S, by omega, rfl, rfl, by omega, by omega, HS0, HF⟩
            case round =>
              clear z1 z2 HS0 HF
              obtain ⟨s, S, hs, rfl, rfl, z1, z2, HS0, HF⟩ := hrel
              by_cases hlt2 : s < M
              · go_wp2_with fail
                go_loop [17, 18, 101] (fun s17 s18 s101 => ∃ (i q c : Nat), i ≤ m ∧ s101 = .int .i64 i ∧ s17 = .int .u16 q ∧ s18 = .int .i64 c ∧ c ≤ i ∧ q ≤ U ∧ Hid (capM ss U s i = q) ∧ Hid (popM s i = c)) (fun _ _ s => m - (intOf s).toNat)
                case atStart => exact ⟨0, U, 0, by omega, rfl, rfl, rfl, by omega, by omega, Lib.hid rfl, Lib.hid rfl⟩
                case round =>
                  obtain ⟨i, q, c, hi, rfl, rfl, rfl, hc, hq, HQ, HC⟩ := hrel
                  by_cases hlt3 : i < m
                  · have hsl : s / 2 ^ i < 64 := Nat.lt_of_le_of_lt (Nat.div_le_self _ _) (by omega)
                    have E := and1_64 (s / 2 ^ i) hsl
                    have F : ((s / 2 ^ i : Nat) : Int) = (s : Int) / 2 ^ i := by simp
                    rw [F] at E
                    have hcs : capM ss U s (i + 1) = if s / 2 ^ i % 2 = 1 then capM ss U s i &&& ss.getD i 0 else capM ss U s i := rfl
                    have hps : popM s (i + 1) = popM s i + s / 2 ^ i % 2 := rfl
                    rw [HQ.out] at hcs
                    rw [HC.out] at hps
                    have i1 : (0 : Int) ≤ (i : Int) := by omega
                    have i2 : (i : Int) < (m : Int) := by omega
                    obtain ⟨t, ht⟩ : ∃ t, s / 2 ^ i % 2 = t := ⟨_, rfl⟩
                    rw [ht] at E hcs hps
                    have ht2 : t = 0 ∨ t = 1 := by omega
                    clear F ht hsl
                    rcases ht2 with rfl | rfl
                    · rw [if_neg (by omega)] at hcs
                      have H1 := Lib.hid hcs; have H2 := Lib.hid hps
                      clear hcs hps
                      go_wp2_with fail
                      exact ⟨⟨i + 1, q, c, by omega, by simp, rfl, rfl, by omega, by omega, H1, H2⟩, by simp only [intOf]; omega⟩
                    · rw [if_pos rfl] at hcs
                      have hcl := hws_get ss i (by rw [HM.out]; exact hlt3)
                      obtain ⟨bb, ob, rfl, _, cx⟩ := (HF.out.old HS'.out).at i (by rw [hws_len, HM.out]; exact hlt3)
                      rw [hcl] at cx
                      have hv := H16.out (ss.getD i 0) (by
                        rw [List.getD_eq_getElem?_getD, List.getElem?_eq_getElem (by rw [HM.out]; exact hlt3)]; exact List.getElem_mem _)
                      obtain ⟨v, hvv⟩ : ∃ v, ss.getD i 0 = v := ⟨_, rfl⟩
                      rw [hvv] at cx hv hcs
                      have hand := Go.u16_and_nat q v (by omega) hv
                      have hql : q &&& v ≤ q := Nat.and_le_left
                      have H1 := Lib.hid hcs; have H2 := Lib.hid hps
                      clear hcs hps hcl hvv
                      go_wp2_with fail
                      exact ⟨⟨i + 1, q &&& v, c + 1, by omega, by simp, rfl, by simp, by omega, by omega, H1, H2⟩, by simp only [intOf]; omega⟩
                  · obtain rfl : i = m := by omega
                    by_cases hpz : c = z + 1
                    · have hadd := st_add l ss k i z s HN.out (by rw [HC.out]; exact hpz)
                      rw [HU.out, HQ.out, HS0.out] at hadd
                      have hqp : q < 2 ^ l.length := by have := HU.out; have := Nat.two_pow_pos k; rw [HN.out]; omega
                      have hck : chkE l [q] = 0 := chkE_yes (by rw [HN.out]; exact k1) (by rw [HN.out]; exact k12) HP.out (fun s hs => by rw [List.mem_singleton] at hs; rw [hs]; exact hqp)
                      obtain ⟨X', Y', hXY⟩ : ∃ X Y, RedIs (wtL l q) (isum l) X Y := ⟨_, _, rfl, rfl⟩
                      obtain ⟨D', hD, hYD, hXD, hY0⟩ := redIs_parts hXY (by rw [HT.out]; exact hT1)
                      have hB := wtL_bd l q HP.out
                      obtain ⟨B, hBB⟩ : ∃ B, wtL l q = B := ⟨_, rfl⟩
                      rw [HT.out] at hYD
                      rw [hBB] at hB hXD hadd
                      rw [HN.out] at hB
                      have hB0 := hB.1
                      have hB12 : B ≤ 1200 := by omega
                      have hX0 : 0 ≤ X' := by
                        by_cases c : X' < 0
                        · have := Int.mul_neg_of_neg_of_pos c hD; omega
                        · omega
                      have hXA : X' ≤ B := by have : X' * 1 ≤ X' * D' := Int.mul_le_mul_of_nonneg_left (by omega) hX0; omega
                      have hYT : Y' ≤ V := Int.le_of_dvd hT1 ⟨D', hYD.symm⟩
                      have hDT : D' ≤ V := Int.le_of_dvd hT1 ⟨Y', by rw [Int.mul_comm]; exact hYD.symm⟩
                      have q1 : V.tmod Y' = 0 := by rw [← hYD]; exact Int.mul_tmod_right Y' D'
                      have q2 : V.tdiv Y' = D' := by rw [← hYD]; exact Int.mul_tdiv_cancel_left D' (by omega)
                      have q3 : V % Y' = 0 := by rw [← hYD]; exact Int.mul_emod_right Y' D'
                      have q4 : V / Y' = D' := by rw [← hYD]; exact Int.mul_ediv_cancel_left D' (by omega)
                      have q5 : IntKind.i64.wrap (V.tdiv Y') = D' := by rw [q2, IntKind.wrap_i64]; omega
                      have q6 : decide (Y' < 1) = false := decide_eq_false (by omega)
                      have g2 : ((c : Int) != (z : Int) + 1) = false := by rw [bne_eq_false_iff_eq]; omega
                      have HCK := Lib.hid hck; have HXY := Lib.hid hXY
                      have QB := Lib.hid (And.intro q1 (And.intro q2 (And.intro q3 (And.intro q4 (And.intro q5 hXD)))))
                      clear hXY hYD hXD hck hB hBB hqp q1 q2 q3 q4 q5
                      by_cases hodd : (z + 1) % 2 = 1
                      · rw [if_pos hodd] at hadd
                        have HADD := Lib.hid hadd
                        have g3 : (((z : Int) + 1) % 2 == 1) = true := beq_iff_eq.2 (by omega)
                        clear hadd
                        go_wp2_with fail
                        refine (evChance l k _ _ q _ (HF.out.old HS.out) HN.out (by omega) X' Y' HCK.out HXY.out).mono ?_; rintro e w6 ⟨rfl, hb⟩
                        have hf6 := (HF.out.keep hb).new 23 #[.int .i64 X', .int .i64 Y'] [.int .i64 X', .int .i64 Y'] rfl 2 rfl (by omega)
                        obtain ⟨_, e, _, _, hcr, _⟩ := hf6.open (by simp)
                        cases e
                        have c0 := hcr 0 (by simp)
                        have c1 := hcr 1 (by simp)
                        have HF6 := Lib.hid hf6.below
                        clear hcr hf6 hb
                        go_wp2_with fail
                        obtain ⟨q1, q2, q3, q4, q5, q7⟩ := QB.out
                        go_quiet (fail)
                        clear q1 q2 q3 q4 q5 q7
                        have HF7 : Hid (Fr w ((w6.alloc (.cells #[.int .i64 X', .int .i64 Y'] 23)).drewN nq) []) := Lib.hid (HF6.out.drewN nq)
                        go_wp2_with fail
                        exact ⟨⟨s + 1, S + B, by omega, by simp, rfl, by omega, by omega, HADD, HF7⟩, by simp only [intOf]; omega⟩
                      · rw [if_neg hodd] at hadd
                        have hadd' : stZ l ss i z (s + 1) = S - B := by rw [hadd]; omega
                        have HADD := Lib.hid hadd'
                        have g3 : (((z : Int) + 1) % 2 == 1) = false := beq_eq_false_iff_ne.2 (by omega)
                        clear hadd hadd'
                        go_wp2_with fail
                        refine (evChance l k _ _ q _ (HF.out.old HS.out) HN.out (by omega) X' Y' HCK.out HXY.out).mono ?_; rintro e w6 ⟨rfl, hb⟩
                        have hf6 := (HF.out.keep hb).new 23 #[.int .i64 X', .int .i64 Y'] [.int .i64 X', .int .i64 Y'] rfl 2 rfl (by omega)
                        obtain ⟨_, e, _, _, hcr, _⟩ := hf6.open (by simp)
                        cases e
                        have c0 := hcr 0 (by simp)
                        have c1 := hcr 1 (by simp)
                        have HF6 := Lib.hid hf6.below
                        clear hcr hf6 hb
                        go_wp2_with fail
                        obtain ⟨q1, q2, q3, q4, q5, q7⟩ := QB.out
                        go_quiet (fail)
                        clear q1 q2 q3 q4 q5 q7
                        have HF7 : Hid (Fr w ((w6.alloc (.cells #[.int .i64 X', .int .i64 Y'] 23)).drewN nq) []) := Lib.hid (HF6.out.drewN nq)
                        go_wp2_with fail
                        exact ⟨⟨s + 1, S - B, by omega, by simp, rfl, by omega, by omega, HADD, HF7⟩, by simp only [intOf]; omega⟩
                    · have hsk := st_skip l ss i z s (by rw [HC.out]; exact hpz)
                      rw [HS0.out] at hsk
                      have HSK := Lib.hid hsk
                      have g2 : ((c : Int) != (z : Int) + 1) = true := by rw [bne_iff_ne]; omega
                      clear hsk
                      go_wp2_with fail
                      exact ⟨⟨s + 1, S, by omega, by simp, rfl, by omega, by omega, HSK, HF⟩, by simp only [intOf]; omega⟩
              · obtain rfl : s = M := by omega
                have hS1 : stZ l ss m (z + 1) 0 = S := by rw [← HNX.out]; exact HS0.out
                have HS1 := Lib.hid hS1
                have hps : ∀ x ∈ l, 0 ≤ x := fun x hx => by have := HP.out x hx; omega
                by_cases hodd : (z + 1) % 2 = 1
                · have ho := st_odd l ss k m z HN.out HM.out (by omega) hps hlt hodd
                  rw [hS1, HA.out] at ho
                  have g3 : (((z : Int) + 1) % 2 == 1) = true := beq_iff_eq.2 (by omega)
                  have g4 : (((z : Int) + 1) % 2 == 0) = false := beq_eq_false_iff_ne.2 (by omega)
                  have g5 : decide (S < A) = false := decide_eq_false (by omega)
                  clear hS1 hps
                  go_wp2_with fail
                  exact ⟨⟨z + 1, S, by omega, by simp, rfl, by omega, by omega, HS1, HF⟩, by simp only [intOf]; omega⟩
                · have ho := st_even l ss k m z HN.out HM.out (by omega) hps hlt hodd
                  rw [hS1, HA.out] at ho
                  have g3 : (((z : Int) + 1) % 2 == 1) = false := beq_eq_false_iff_ne.2 (by omega)
                  have g4 : (((z : Int) + 1) % 2 == 0) = true := beq_iff_eq.2 (by omega)
                  have g5 : decide (A < S) = false := decide_eq_false (by omega)
                  clear hS1 hps
                  go_wp2_with fail
                  exact ⟨⟨z + 1, S, by omega, by simp, rfl, by omega, by omega, HS1, HF⟩, by simp only [intOf]; omega⟩
          · obtain rfl : z = m := by omega
            have hfin := st_end l ss k z HN.out HM.out (by omega)
            rw [HS0.out, HA.out] at hfin
            have g1 : decide ((z : Int) + 1 ≤ (z : Int)) = false := decide_eq_false (by omega)
            have g2 : (S == A) = true := beq_iff_eq.2 hfin
            clear hfin
            go_wp2_with fail
            go_ret
            exact ⟨by simp, HF.out.bel⟩
  · obtain ⟨er, her⟩ : ∃ er, chkE l ss = er := ⟨_, rfl⟩
    rw [her] at he
    refine (evSome_no l ss n m _ _ _ _ _ (HF3.out.old HS.out) (HF3.out.old HS'.out) HN.out HM.out H16.out (by omega) er her he).mono ?_; rintro e w3 ⟨rfl, hb⟩
    have hf4 := (HF3.out.keep hb).new 23 #[.int .i64 0, .int .i64 0] [.int .i64 0, .int .i64 0] rfl 2 rfl (by omega)
    obtain ⟨_, e, _, _, hcr, _⟩ := hf4.open (by simp)
    cases e
    have c0 := hcr 0 (by simp)
    have c1 := hcr 1 (by simp)
    have HF4 := Lib.hid hf4
    have z : (er != 0) = true := by rw [bne_iff_ne]; exact he
    have z2 : (er == 0) = false := by rw [beq_eq_false_iff_ne]; exact he
    clear hcr hf4 hb her
    go_wp2_with fail
    go_ret
    exact ⟨by simp, HF4.out.bel⟩
theorem IsRow.saK {k : IntKind} {w : World} {a : Option Addr} {len cap : Nat} {zs : List Int} (h : IsRow k w a len cap zs) :
    Sa w a ((zs.take len).map (Value.int k)) ∧ (zs.take len).length = len ∧ len ≤ maxLen ∧ (∀ x ∈ zs.take len, (Lit.int k x).wf = true) ∧ len ≤ cap ∧ (a = none → cap = 0 ∧ len = 0) := by
  rcases h with ⟨rfl, rfl, rfl, rfl⟩ | ⟨x, rfl, h1, h2, h3, h4, h5⟩
  · exact ⟨Sa.nil _ _, rfl, by omega, by simp, by omega, fun _ => ⟨rfl, rfl⟩⟩
  · have hl : (zs.take len).length = len := by rw [List.length_take]; omega
    refine ⟨fun h0 => ?_, hl, by omega, fun y hy => h5 y (List.mem_of_mem_take hy), h1, fun e => by cases e⟩
    rw [List.length_map, hl] at h0
    have hz := h4 0 (by omega)
    obtain ⟨b, off, spot⟩ := x
    have hs : spot = none := by
      cases spot with
      | none => rfl
      | some s =>
        unfold World.cell? at hz
        simp only [Addr.add] at hz
        split at hz
        · simp at hz
        · cases hz
    subst hs
    refine ⟨b, off, rfl, ?_, fun i hi => ?_⟩
    · unfold World.cell? at hz
      simp only [Addr.add] at hz
      split at hz
      · next hq => exact (Array.getElem?_eq_some_iff.1 hq).1
      · cases hz
    · rw [List.length_map, hl] at hi
      have := h4 i (by omega)
      rw [show ((⟨b, off, none⟩ : Addr).add i) = ⟨b, off + i, none⟩ from by simp [Addr.add]] at this
      rw [this]
      have hi2 : i < (zs.take len).length := by omega
      rw [List.getElem?_map, List.getElem?_eq_getElem hi2, Option.map_some, List.getElem_take]
      congr 2
      rw [List.getD_eq_getElem?_getD, List.getElem?_eq_getElem (by omega)]; rfl

theorem hws_of (l : List Int) (h : ∀ x ∈ l, (Lit.int .u16 x).wf = true) : ∃ ss : List Nat, l.map (Value.int .u16) = hws ss ∧ ss.length = l.length ∧ ∀ s ∈ ss, s < 65536 := by
  induction l with
  | nil => exact ⟨[], rfl, rfl, by simp⟩
  | cons x r ih =>
    obtain ⟨ss, h1, h2, h3⟩ := ih (fun y hy => h y (by simp [hy]))
    obtain ⟨s, rfl, hs⟩ := u16_nat (h x (by simp))
    refine ⟨s :: ss, by rw [List.map_cons, h1]; rfl, by simp [h2], ?_⟩
    intro t ht
    rcases List.mem_cons.1 ht with rfl | ht
    · exact hs
    · exact h3 t ht
theorem eventSome_row (a0 : Option Addr) (len0 cap0 : Nat) (z0 : List Int) (a1 : Option Addr) (len1 cap1 : Nat) (z1 : List Int) (w : World) (w0 : IsRow .i64 w a0 len0 cap0 z0) (w1 : IsRow .u16 w a1 len1 cap1 z1) :
    Calls Try.prog 7 #[.slice a0 len0 cap0, .slice a1 len1 cap1] w fun e w' => e = .returned (.bool true) ∧ Below w.heap.size w w' := by
  obtain ⟨h1, h2, _, _⟩ := w0.sa
  obtain ⟨k1, k2, _, k4, k5, _⟩ := w1.saK
  obtain ⟨ss, e1, e2, e3⟩ := hws_of _ k4
  rw [e1] at k1
  exact eventSome_any _ len0 a0 cap0 ss len1 a1 cap1 w h1 h2 k1 (by rw [e2, k2]) k5 e3
end Go.Proofs.Ytliajiilcicppaa
