/- Contract of warp.Play. -/
import Derived.Test.YtgblmbhbbjgdiaaWar2
namespace Go.Proofs.Ytgblmbhbbjgdiaa
open Go.RowKit

def lenOf : Value → Nat
  | .slice _ n _ => n
  | _ => 0
theorem runInfo : (Try.prog.info? 86).map (fun i => (i.zero, i.size, i.bytes)) = some (some (.agg #[.int .i64 0, .int .i64 0, .bool false, .bool false, .int .i64 0]), 5, 32) := by kernel_rfl
theorem FB.nilSlice {w0 w : World} {T : TypeId} {ad : Option Addr} {xs : List Value} {L : List Ent} (h : FB w0 w T ad xs L) (E : TypeId) : FB w0 w T ad xs (⟨E, .slice none 0 0, []⟩ :: L) := by
  refine ⟨h.fr.nilSlice E, fun h0 => ?_⟩
  obtain ⟨g, cur, e, h1, h2, h3, h4⟩ := h.blk h0
  refine ⟨g, cur, e, h1, h2, h3, fun u hu => ?_⟩
  rcases List.mem_cons.1 hu with rfl | hu
  · simp [Value.ownBlock]
  · exact h4 u hu
/-- x[1:] of structs of c cells -/
theorem slice_fromC (S T : TypeId) (c : Nat) (hS : Try.prog.underlying S = some (.slice T)) (hE : Try.prog.elem S = T) (hT : (Try.prog.info? T).map (fun i => i.size) = some c)
    (ad : Option Addr) (n cap : Nat) (hk : 1 ≤ n) (hc : n ≤ cap) (xs : List Value) (hx : xs.length = n * c) :
    ∃ ad', (∀ W, Sem.run Try.prog (Instr.slice S (.slice ad n cap) (some (.int .i64 1)) none none) W = .ok (.slice ad' (n - 1) (cap - 1)) W) ∧ (∀ W, Sa W ad xs → Sa W ad' (xs.drop c)) := by
  have ht : Try.prog.underlying S = some (.slice (Try.prog.elem S)) := by rw [hE]; exact hS
  have hsz : ∀ W, Sem.run Try.prog (sizeOf (Try.prog.elem S)) W = .ok c W := fun W => by
    rw [hE]
    cases hi : Try.prog.info? T with
    | none => rw [hi] at hT; cases hT
    | some i => rw [hi] at hT; simp at hT; simp [sizeOf, typeInfo, go_sem, hi, hT]
  refine ⟨if cap = 1 then ad else ad.map (·.add (1 * c)), fun W => ?_, fun W hW h0 => ?_⟩
  · have := run_slice_l W S ad n cap ht .i64 1 (by omega) (by omega)
    rw [this, hsz]
    simp [Result.andThen, sliced]
  · rw [List.length_drop] at h0
    have hc1 : cap ≠ 1 := fun e => by
      have : n = 1 := by omega
      subst this; omega
    rw [if_neg hc1]
    obtain ⟨b, off, rfl, _, _⟩ := hW (by omega)
    have := hW.drop c
    have e : (some ⟨b, off, none⟩ : Option Addr).map (·.add (1 * c)) = some ⟨b, off + c, none⟩ := by
      simp only [Option.map_some, Nat.one_mul]; unfold Addr.add; split
      · next h => simp_all
      · rfl
    rw [e]; exact this (by rw [List.length_drop]; exact h0)
theorem turnElem : Try.prog.elem 55 = 57 := by kernel_rfl
theorem turnSize : (Try.prog.info? 57).map (fun i => i.size) = some 3 := by kernel_rfl

set_option maxRecDepth 100000 in
set_option maxHeartbeats 4000000 in
theorem warPlay_no (l : List Rn) (T : List Tu) (n m : Nat) (u : Int) (a b : Option Addr) (ca cb : Nat) (w : World) (h : Sa w a (ths l)) (h' : Sa w b (tus T)) (hn : l.length = n) (hm : T.length = m) (er : Int) (he : chkW l T = er) (h0 : er ≠ 0) :
    Calls Try.prog 27 #[.slice a n ca, .slice b m cb, .int .i64 u] w fun e w' => e = .returned (.tuple #[.slice none 0 0, .slice none 0 0, .int .i64 er]) ∧ Below w.heap.size w w' := by
  have HN := Lib.hid hn; have HM := Lib.hid hm; have HS := Lib.hid h; have HS' := Lib.hid h'; have HE := Lib.hid he
  have z : (er != 0) = true := by rw [bne_iff_ne]; exact h0
  clear hn hm h h' he h0
  go_enter Try.func27, Try.ntmps27
  go_wp2_with fail
  refine (warChk l T n m _ _ _ _ _ HS.out HS'.out HN.out HM.out).mono ?_; rintro e w1 ⟨rfl, hb⟩
  rw [HE.out]
  have HB := Lib.hid hb
  clear hb
  go_wp2_with fail
  go_ret3
  exact ⟨rfl, HB.out⟩
set_option maxRecDepth 100000 in
set_option maxHeartbeats 4000000 in
theorem warPlay_arg (l : List Rn) (T : List Tu) (n m : Nat) (u : Int) (a b : Option Addr) (ca cb : Nat) (w : World) (h : Sa w a (ths l)) (h' : Sa w b (tus T)) (hn : l.length = n) (hm : T.length = m) (he : chkW l T = 0) (hu : u < 0 ∨ 200 < u) :
    Calls Try.prog 27 #[.slice a n ca, .slice b m cb, .int .i64 u] w fun e w' => e = .returned (.tuple #[.slice none 0 0, .slice none 0 0, .int .i64 1]) ∧ Below w.heap.size w w' := by
  have HN := Lib.hid hn; have HM := Lib.hid hm; have HS := Lib.hid h; have HS' := Lib.hid h'; have HE := Lib.hid he
  clear hn hm h h' he
  by_cases hu0 : u < 0
  · have d1 : decide (u < 0) = true := decide_eq_true hu0
    go_enter Try.func27, Try.ntmps27
    go_wp2_with fail
    refine (warChk l T n m _ _ _ _ _ HS.out HS'.out HN.out HM.out).mono ?_; rintro e w1 ⟨rfl, hb⟩
    rw [HE.out]
    have HB := Lib.hid hb
    clear hb
    go_wp2_with fail
    go_ret3
    exact ⟨rfl, HB.out⟩
  · have d1 : decide (u < 0) = false := decide_eq_false hu0
    have d2 : decide (200 < u) = true := decide_eq_true (by omega)
    go_enter Try.func27, Try.ntmps27
    go_wp2_with fail
    refine (warChk l T n m _ _ _ _ _ HS.out HS'.out HN.out HM.out).mono ?_; rintro e w1 ⟨rfl, hb⟩
    rw [HE.out]
    have HB := Lib.hid hb
    clear hb
    go_wp2_with fail
    go_ret3
    exact ⟨rfl, HB.out⟩

def PlaySaid (l : List Rn) (T : List Tu) (n u : Nat) (w : World) (e : Ending) (w' : World) : Prop :=
  ∃ ad cp ad' cp', e = .returned (.tuple #[.slice ad u cp, .slice ad' n cp', .int .i64 0]) ∧ u ≤ cp ∧ n ≤ cp' ∧ Fr w w' [⟨3, .slice ad' n cp', ints (endW (stL l T u))⟩, ⟨3, .slice ad u cp, ints (ranW l T u)⟩]
set_option maxRecDepth 100000 in
set_option maxHeartbeats 8000000 in
theorem warPlay_yes (l : List Rn) (T : List Tu) (n m u : Nat) (a b : Option Addr) (ca cb : Nat) (w : World) (h : Sa w a (ths l)) (h' : Sa w b (tus T)) (hn : l.length = n) (hm : T.length = m) (hcb : m ≤ cb) (he : chkW l T = 0) (hu : u ≤ 200) :
    Calls Try.prog 27 #[.slice a n ca, .slice b m cb, .int .i64 u] w (PlaySaid l T n u w) := by
  have ok := chkW_ok he
  rw [hn, hm] at ok
  have n8 := ok.n8
  have m30 := ok.m30
  have HN := Lib.hid hn; have HM := Lib.hid hm; have HS := Lib.hid h; have HS' := Lib.hid h'; have HE := Lib.hid he; have HK := Lib.hid ok
  clear hn hm h h' he ok
  have d1 : decide ((u : Int) < 0) = false := decide_eq_false (by omega)
  have d2 : decide ((200 : Int) < (u : Int)) = false := decide_eq_false (by omega)
  go_enter Try.func27, Try.ntmps27
  go_wp2_with fail
  refine (warChk l T n m _ _ _ _ _ HS.out HS'.out HN.out HM.out).mono ?_; rintro e w1 ⟨rfl, hb⟩
  rw [HE.out]
  have HB := Lib.hid hb
  clear hb
  go_wp2_with fail
  clear d1 d2
  go_loopw [10, 33] (fun s10 i wr => ∃ (k : Nat) (v : Value), k ≤ n ∧ i = .int .i64 k ∧ v = s10 ∧ Hid (wr.ownsRow w.heap.size 86 5 v k (rns (zeroR (l.take k)))) ∧ Hid (Below w.heap.size w wr)) (fun _ i _ => n - (intOf i).toNat)
  case atStart => exact ⟨0, _, by omega, rfl, rfl, Lib.hid (World.ownsRow_nil _ _ _ _), HB⟩
  case round =>
    clear HB
    obtain ⟨k, v, hk, rfl, rfl, HO, HB⟩ := hrel
    by_cases hlt : k < n
    · obtain ⟨b', off, rfl, hb, c0, c1, c2, c3⟩ := (HS.out.keep HB.out).thA k (by rw [HN.out]; exact hlt)
      have htk := rnA_take l k (by rw [HN.out]; exact hlt)
      obtain ⟨⟨sh, wa, th, ah, ps⟩, hr⟩ : ∃ r, rnA l k = r := ⟨_, rfl⟩
      rw [hr] at c0 c1 c2 c3 htk
      simp only at c0 c1 c2 c3
      have hst : rns (zeroR (l.take k)) ++ [.int .i64 sh, .int .i64 wa, .bool th, .bool ah, .int .i64 0] = rns (zeroR (l.take (k + 1))) := by
        rw [htk]; simp [zeroR, rns, rnC]
      have HST := Lib.hid hst
      have e1 : (0 : Int) ≤ (k : Int) := by omega
      have e2 : (k : Int) < (n : Int) := by omega
      have HO2 := Lib.hid (World.ownsRow.alloc HO.out (.cells #[.int .i64 sh, .int .i64 wa, .bool th, .bool ah] 51))
      have HB2 := Lib.hid (HB.out.alloc HB.out.size (.cells #[.int .i64 sh, .int .i64 wa, .bool th, .bool ah] 51))
      clear hr htk hst
      go_wp2_with (with_reducible refine at_slot 41 ?_; go_must (refine wpList_pushStr rfl _ _ 84 86 _ 5 32 Try.underlying84 runInfo rfl (by decide) (by decide) rfl v k _ [.int .i64 sh, .int .i64 wa, .bool th, .bool ah, .int .i64 0] rfl HO2.out HB2.out _ (by simp) rfl rfl ?_ ?_ ?_); rotate_left; rotate_left; intro v' w3 ho2 hb2 hlt2)
      · rw [HST.out] at ho2
        exact ⟨⟨k + 1, v', by omega, by simp, rfl, Lib.hid ho2, Lib.hid hb2⟩, by simp only [intOf]; omega⟩
      · intro x hx
        simp only [List.mem_cons, List.not_mem_nil, or_false] at hx
        rcases hx with rfl | rfl | rfl | rfl | rfl <;> rfl
      · omega
    · obtain rfl : k = n := by omega
      obtain ⟨ad, cap, rfl, hcap, hfb⟩ := FB.of HO.out HB.out
      rw [List.take_of_length_le (by rw [HN.out]; exact Nat.le_refl _), show zeroR l = stL l T 0 from rfl] at hfb
      have HF := Lib.hid (hfb.nilSlice 3)
      clear HO HB hfb
      go_wp2_with fail
      go_loopw [1, 13, 44] (fun s1 s13 s44 wr => ∃ (t p r : Nat) (bd rd : Option Addr) (tc cp : Nat), t ≤ u ∧ s44 = .int .i64 t ∧ Hid (p + r = m) ∧ s1 = .slice bd r tc ∧ r ≤ tc ∧ s13 = .slice rd t cp ∧ Hid (Sa w bd (tus (T.drop p))) ∧
        Hid (∀ i, i < p → (tuA T i).t < t) ∧ Hid (∀ i, p ≤ i → i < m → (t : Int) ≤ (tuA T i).t) ∧ Hid (FB w wr 86 ad (rns (stL l T t)) [⟨3, .slice rd t cp, ints (ranW l T t)⟩])) (fun _ _ s _ => u - (intOf s).toNat)
      case atStart =>
        refine ⟨0, 0, m, b, none, cb, 0, by omega, rfl, Lib.hid (by omega), rfl, by omega, rfl, HS', Lib.hid (fun i hi => by omega), Lib.hid (fun i _ hi => ?_), HF⟩
        have := (HK.out.tu i hi).1
        simpa using this
      case round =>
        clear HF
        obtain ⟨t, p, r, bd, rd, tc, cp, ht, rfl, HPR, rfl, htc, rfl, HT, HP, HR, HF⟩ := hrel
        by_cases hlt2 : t < u
        · go_wp2_with fail
          go_loopw [1] (fun s1 wr => ∃ (q r : Nat) (bd : Option Addr) (tc : Nat), p ≤ q ∧ Hid (q + r = m) ∧ s1 = .slice bd r tc ∧ r ≤ tc ∧ Hid (Sa w bd (tus (T.drop q))) ∧ Hid (∀ i, p ≤ i → i < q → (tuA T i).t = t) ∧
            Hid (RnOk (((T.drop p).take (q - p)).foldl turnR (stL l T t)) k 504000) ∧ Hid (FB w wr 86 ad (rns (((T.drop p).take (q - p)).foldl turnR (stL l T t))) [⟨3, .slice rd t cp, ints (ranW l T t)⟩])) (fun s1 _ => lenOf s1)
          case atStart =>
            refine ⟨p, r, bd, tc, by omega, HPR, rfl, htc, HT, Lib.hid (fun i h1 h2 => by omega), Lib.hid ?_, ?_⟩
            · rw [Nat.sub_self, List.take_zero]
              show RnOk (stL l T t) k 504000
              have := (HK.out.st t).1
              exact ⟨this.len, fun i hi => by have := this.ok i hi; omega⟩
            · rw [Nat.sub_self, List.take_zero]; exact HF
          case round =>
            clear HF HT htc
            obtain ⟨q, r', bd, tc, hpq, HQR, rfl, htc, HT, HQ, HO, HF⟩ := hrel
            have hqr := HQR.out
            have hqm : q ≤ m := by omega
            have hlen : (T.drop q).length = r' := by rw [List.length_drop, HM.out]; omega
            have HLEN := Lib.hid hlen
            clear hqr hlen
            by_cases hc : 0 < r' ∧ (tuA T q).t = t
            · obtain ⟨hlt3, heq⟩ := hc
              have g1 : decide ((0 : Int) < (r' : Int)) = true := decide_eq_true (by omega)
              have hqm2 : q < m := by have := HQR.out; omega
              obtain ⟨b', off, rfl, hb, c0, c1, c2⟩ := (HT.out.keep HF.out.bel).tuA 0 (by rw [HLEN.out]; exact hlt3)
              simp only [tuA_drop, Nat.zero_mul, Nat.add_zero] at c0 c1 c2
              have hk := HK.out.tu q hqm2
              have hge := HR.out q hpq hqm2
              obtain ⟨ad2, hsl, hsa⟩ := slice_fromC 55 57 3 Try.underlying55 turnElem turnSize (some ⟨b', off, none⟩) r' tc hlt3 htc (tus (T.drop q)) (by rw [tus_len, HLEN.out])
              have hdrop : (tus (T.drop q)).drop 3 = tus (T.drop (q + 1)) := by
                have := flat_drop tuC 3 (fun _ => rfl) (T.drop q) 1
                rw [Nat.one_mul, List.drop_drop] at this
                exact this
              have hfold : ((T.drop p).take (q + 1 - p)).foldl turnR (stL l T t) = turnR (((T.drop p).take (q - p)).foldl turnR (stL l T t)) (tuA T q) := by
                rw [show q + 1 - p = (q - p) + 1 by omega, tuA_take _ _ (by rw [List.length_drop, HM.out]; omega), List.foldl_append, tuA_drop, show p + (q - p) = q by omega]
                rfl
              have hw0 := hk.2.2.1
              have hw1 := hk.2.2.2.1
              have hk0 := hk.2.2.2.2.1
              have hk1 := hk.2.2.2.2.2.1
              have hQ2 : ∀ i, p ≤ i → i < q + 1 → (tuA T i).t = t := fun i h1 h2 => by
                by_cases e : i = q
                · rw [e]; exact heq
                · exact HQ.out i h1 (by omega)
              obtain ⟨⟨xt, xw, xk⟩, hx⟩ : ∃ x, tuA T q = x := ⟨_, rfl⟩
              rw [hx] at c0 c1 c2 heq hw0 hw1 hk0 hk1 hfold
              simp only at c0 c1 c2 heq hw0 hw1 hk0 hk1
              subst heq
              have HFO := Lib.hid hfold
              have g2 : ((t : Int) == (t : Int)) = true := beq_self_eq_true _
              have HQ2 := Lib.hid hQ2; have HSA := Lib.hid hsa; have HD := Lib.hid hdrop
              have hrr : r' - 1 ≤ tc - 1 := by omega
              have HO2 : Hid (RnOk (turnR (((T.drop p).take (q - p)).foldl turnR (stL l T t)) ⟨t, xw, xk⟩) k 504000) := Lib.hid (HO.out.turn (by omega) _ ⟨hw0, hw1⟩)
              obtain ⟨r1, hr1⟩ : ∃ r1, r' - 1 = r1 := ⟨_, rfl⟩
              obtain ⟨tc1, htc1⟩ : ∃ tc1, tc - 1 = tc1 := ⟨_, rfl⟩
              rw [hr1, htc1] at hsl hrr
              have HQR2 : Hid (q + 1 + r1 = m) := Lib.hid (by have := HQR.out; omega)
              have hlt4 : r1 < r' := by omega
              have hpq1 : p ≤ q + 1 := by omega
              clear hfold hk hge hdrop hQ2 hx hr1 htc1 hsa
              go_wp2_with fail
              refine (warTurn _ ⟨t, xw, xk⟩ k _ _ _ _ HF.out HO.out (by omega) ⟨hw0, hw1⟩ ⟨hk0, hk1⟩).mono ?_; rintro e w2 ⟨rfl, hf⟩
              have HF2 := Lib.hid hf
              clear hf
              have HT2 : Hid (Sa w ad2 (tus (T.drop (q + 1)))) := Lib.hid (by rw [← HD.out]; exact HSA.out _ HT.out)
              rw [← HFO.out] at HF2 HO2
              go_wp2_with fail
              exact ⟨⟨q + 1, r1, ad2, tc1, by omega, HQR2, rfl, hrr, HT2, HQ2, HO2, HF2⟩, by simp only [lenOf]; omega⟩
            · have hEv : evs T t = (T.drop p).take (q - p) := by
                refine evs_mid t p q hpq (by rw [HM.out]; exact hqm) HP.out HQ.out (fun i h1 h2 => ?_)
                rw [HM.out] at h2
                have h3 := HQR.out
                have := HK.out.sorted q (i - q) (by omega)
                rw [show q + (i - q) = i by omega] at this
                have := HR.out q hpq (by omega)
                by_cases e : (tuA T q).t = t
                · exact absurd ⟨by omega, e⟩ hc
                · omega
              have hP2 : ∀ i, i < q → (tuA T i).t < ((t + 1 : Nat) : Int) := fun i hi => by
                by_cases h : i < p
                · have := HP.out i h; omega
                · have := HQ.out i (by omega) hi; omega
              have hR2 : ∀ i, q ≤ i → i < m → ((t + 1 : Nat) : Int) ≤ (tuA T i).t := fun i h1 h2 => by
                have h3 := HQR.out
                have := HK.out.sorted q (i - q) (by omega)
                rw [show q + (i - q) = i by omega] at this
                have := HR.out q hpq (by omega)
                by_cases e : (tuA T q).t = t
                · exact absurd ⟨by omega, e⟩ hc
                · omega
              have HP2 := Lib.hid hP2; have HR2 := Lib.hid hR2
              have e1 : ((T.drop p).take (q - p)).foldl turnR (stL l T t) = evL l T t := by rw [evL, hEv]
              rw [e1] at HF HO
              have hb2 := besW_lt (evL l T t) k
              have hsu := stL_succ l T t
              have hru := ranW_succ l T t
              rw [HN.out] at hsu hru
              have hbo := HO.out.ok
              have hlenE := HO.out.len
              have HSU := Lib.hid hsu; have HRU := Lib.hid hru; have HBO := Lib.hid hbo; have HLE := Lib.hid hlenE
              have hst5 := (HK.out.st t).2.ok
              have HST5 := Lib.hid hst5
              obtain ⟨B, hB⟩ : ∃ B, besW (evL l T t) k = B := ⟨_, rfl⟩
              rw [hB] at hb2 HSU HRU
              have HBB := Lib.hid hB
              obtain ⟨hb2, hb3⟩ := hb2
              have hT0 : r' = 0 ∨ ∃ b' off, bd = some ⟨b', off, none⟩ ∧ (0 < r') ∧ wr.cell? ⟨b', off, none⟩ = some (.int .i64 (tuA T q).t) ∧ ((tuA T q).t == (t : Int)) = false ∧ decide ((0 : Int) < (r' : Int)) = true := by
                by_cases hr0 : r' = 0
                · exact .inl hr0
                · obtain ⟨b', off, e, hb, c0, c1, c2⟩ := (HT.out.keep HF.out.bel).tuA 0 (by rw [HLEN.out]; omega)
                  simp only [tuA_drop, Nat.zero_mul, Nat.add_zero] at c0
                  exact .inr ⟨b', off, e, by omega, c0, beq_eq_false_iff_ne.2 (fun e => hc ⟨by omega, e⟩), decide_eq_true (by omega)⟩
              clear hEv hP2 hR2 e1 hsu hru hbo hlenE hB hc HQ HR HP hst5
              rcases hT0 with rfl | ⟨b', off, rfl, hlt3, c0, g2, g1⟩
              all_goals
                go_wp2_with fail
                refine (warNext (evL l T t) k _ _ _ HF.out.sa HO.out (by omega)).mono ?_; rintro e w2 ⟨rfl, hb⟩
                rw [HBB.out]
                have HF2 := Lib.hid (HF.out.keep hb)
                clear hb
                by_cases hB0 : 0 ≤ B
                · obtain ⟨β, rfl⟩ : ∃ β : Nat, B = β := ⟨B.toNat, by omega⟩
                  have hβ : β < k := by omega
                  have hβL : β < (evL l T t).length := by rw [HLE.out]; exact hβ
                  have hbd := HST5.out β hβ
                  have h0 : 0 < (rns (evL l T t)).length := by rw [rns_len]; omega
                  obtain ⟨g, rfl, hg, hgl, hcs, hfz⟩ := HF2.out.open h0
                  have key : ∀ i, i < 5 → w2.cell? ⟨g, β * 5 + i, none⟩ = (rnC (rnA (evL l T t) β))[i]? := fun i hi => by
                    rw [hcs (β * 5 + i) (by rw [rns_len]; omega), rns_get _ β i hβL hi]
                  have c5 := key 0 (by omega)
                  have c6 := key 4 (by omega)
                  have f6 := hfz (β * 5 + 4)
                  have hsp := set_ps (evL l T t) β _ hβL rfl ((rnA (evL l T t) β).ps + 2520 / (rnA (evL l T t) β).sh)
                  have hbu : bumpW (evL l T t) (β : Int) = (evL l T t).set β { rnA (evL l T t) β with ps := (rnA (evL l T t) β).ps + 2520 / (rnA (evL l T t) β).sh } := by
                    unfold bumpW; rw [if_pos (by omega)]; simp
                  have hsu : (rns (evL l T t)).set (β * 5 + 4) (.int .i64 ((rnA (evL l T t) β).ps + 2520 / (rnA (evL l T t) β).sh)) = rns (stL l T (t + 1)) := by rw [hsp, HSU.out, hbu]
                  obtain ⟨sh, hsh⟩ : ∃ sh, (rnA (evL l T t) β).sh = sh := ⟨_, rfl⟩
                  obtain ⟨ps, hps⟩ : ∃ ps, (rnA (evL l T t) β).ps = ps := ⟨_, rfl⟩
                  replace c5 : w2.cell? ⟨g, β * 5, none⟩ = some (.int .i64 (rnA (evL l T t) β).sh) := c5
                  replace c6 : w2.cell? ⟨g, β * 5 + 4, none⟩ = some (.int .i64 (rnA (evL l T t) β).ps) := c6
                  rw [hsh] at c5 hsu hbd
                  rw [hps] at c6 hsu hbd
                  obtain ⟨s1, s2, -, -, p1, p2⟩ := hbd
                  obtain ⟨v1, v2, v3⟩ := share_div sh s1 s2
                  have v4 : (2520 : Int).tdiv sh = 2520 / sh := Int.tdiv_eq_ediv_of_nonneg (by omega)
                  obtain ⟨D, hD⟩ : ∃ D, 2520 / sh = D := ⟨_, rfl⟩
                  rw [hD] at hsu v1 v2 v4
                  have v5 : IntKind.i64.wrap ((2520 : Int).tdiv sh) = D := by rw [v4, IntKind.wrap_i64]; omega
                  have v6 : IntKind.i64.wrap (ps + D) = ps + D := by rw [IntKind.wrap_i64]; omega
                  have HSV := Lib.hid hsu
                  have f1 : decide (0 ≤ (β : Int)) = true := decide_eq_true (by omega)
                  have i1 : (0 : Int) ≤ (β : Int) := by omega
                  have i2 : (β : Int) < (k : Int) := by omega
                  clear hsu hsp hbu hcs hfz key hsh hps v3 hb2 hb3 hB0
                  have F3 := HF2.out.set h0 (β * 5 + 4) (.int .i64 (ps + D))
                  rw [HSV.out] at F3
                  have HF3 := Lib.hid F3
                  clear F3 HF2 HF HSV hg h0 hβL
                  go_wp2_with fail
                  go_region
                  all_goals
                    clear v4 v5 v6 hD c5 c6 f6
                    have HF4 := Lib.hid HF3.out.drew
                    clear HF3 hgl
                    obtain ⟨w4, hw4⟩ : ∃ w4, (w2.setCell ⟨g, β * 5 + 4, none⟩ (.int .i64 (ps + D))).drew = w4 := ⟨_, rfl⟩
                    rw [hw4] at HF4 ⊢
                    clear hw4
                    go_wp2_with (with_reducible refine at_slot 87 ?_; go_must (refine wpList_pushFB rfl _ _ rfl 86 (some ⟨g, 0, none⟩) (rns (stL l T (t + 1))) rd t cp (ranW l T t) (β : Int) [] rfl HF4.out _ (by simp) rfl ?_ ?_); rotate_left; intro rd' cp' w3 hf hlt4)
                    · rw [← HRU.out] at hf
                      exact ⟨⟨t + 1, q, _, _, rd', _, cp', by omega, by simp, HQR, rfl, htc, rfl, HT, HP2, HR2, Lib.hid hf⟩, by simp only [intOf]; omega⟩
                    · omega
                · have f1 : decide (0 ≤ B) = false := decide_eq_false hB0
                  have hsu : stL l T (t + 1) = evL l T t := by rw [HSU.out]; unfold bumpW; rw [if_neg hB0]
                  have HSV := Lib.hid hsu
                  clear hsu
                  go_wp2_with (with_reducible refine at_slot 87 ?_; go_must (refine wpList_pushFB rfl _ _ rfl 86 ad (rns (evL l T t)) rd t cp (ranW l T t) B [] rfl HF2.out _ (by simp) rfl ?_ ?_); rotate_left; intro rd' cp' w3 hf hlt4)
                  · rw [← HSV.out, ← HRU.out] at hf
                    exact ⟨⟨t + 1, q, _, _, rd', _, cp', by omega, by simp, HQR, rfl, htc, rfl, HT, HP2, HR2, Lib.hid hf⟩, by simp only [intOf]; omega⟩
                  · omega
        · obtain rfl : t = u := by omega
          clear HP HR HT HPR
          have hru := HF.out.fr.cap
          have hok := (HK.out.st t).1
          have HOK := Lib.hid hok
          have HFN := Lib.hid (HF.out.nilSlice 3)
          clear hok HF
          go_wp2_with fail
          go_loopw [16, 91] (fun s16 s91 wr => ∃ (j : Nat) (ed : Option Addr) (ec : Nat), j ≤ k ∧ s91 = .int .i64 j ∧ s16 = .slice ed j ec ∧ Hid (FB w wr 86 ad (rns (stL l T t)) [⟨3, .slice ed j ec, ints ((endW (stL l T t)).take j)⟩, ⟨3, .slice rd t cp, ints (ranW l T t)⟩])) (fun _ s _ => k - (intOf s).toNat)
          case atStart => exact ⟨0, none, 0, by omega, rfl, rfl, HFN⟩
          case round =>
            clear HFN
            obtain ⟨j, ed, ec, hj, rfl, rfl, HF⟩ := hrel
            by_cases hlt3 : j < k
            · obtain ⟨b', off, rfl, hb, c0, c1, c2, c3, c4⟩ := HF.out.sa.rnA j (by rw [HOK.out.len]; exact hlt3)
              have hl : (endW (stL l T t)).length = k := by rw [endW, List.length_map, HOK.out.len]
              have htk := take_nth (endW (stL l T t)) j (by rw [hl]; exact hlt3)
              have hn : nth (endW (stL l T t)) j = (rnA (stL l T t) j).ps := by
                have : j < (stL l T t).length := by rw [HOK.out.len]; exact hlt3
                simp [nth, endW, rnA, this]
              rw [hn] at htk
              obtain ⟨⟨sh, wa, th, ah, ps⟩, hr⟩ : ∃ r, rnA (stL l T t) j = r := ⟨_, rfl⟩
              rw [hr] at c0 c1 c2 c3 c4 htk
              simp only at c0 c1 c2 c3 c4 htk
              have HTK := Lib.hid htk
              have e1 : (0 : Int) ≤ (j : Int) := by omega
              have e2 : (j : Int) < (k : Int) := by omega
              have HF2 := Lib.hid (HF.out.alloc (.cells #[.int .i64 sh, .int .i64 wa, .bool th, .bool ah, .int .i64 ps] 86))
              clear hr htk hn hl HF
              go_wp2_with (with_reducible refine at_slot 99 ?_; go_must (refine wpList_pushFB rfl _ _ rfl 86 (some ⟨b', off, none⟩) (rns (stL l T t)) ed j ec ((endW (stL l T t)).take j) ps _ rfl HF2.out _ (by simp) rfl ?_ ?_); rotate_left; intro ed' ec' w3 hf hlt4)
              · rw [← HTK.out] at hf
                exact ⟨⟨j + 1, ed', ec', by omega, by simp, rfl, Lib.hid hf⟩, by simp only [intOf]; omega⟩
              · omega
            · obtain rfl : j = k := by omega
              have hl : (endW (stL l T t)).length = j := by rw [endW, List.length_map, HOK.out.len]
              have hf := HF.out.fr
              rw [List.take_of_length_le (by rw [hl]; exact Nat.le_refl _)] at hf
              have HFF := Lib.hid hf
              clear hf
              go_wp2_with fail
              go_ret3
              exact ⟨_, _, _, _, rfl, hru, HFF.out.cap, HFF.out⟩
end Go.Proofs.Ytgblmbhbbjgdiaa
