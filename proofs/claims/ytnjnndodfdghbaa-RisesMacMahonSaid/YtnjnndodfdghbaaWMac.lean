/- The walk of the law RisesMacMahon. -/
import Derived.Test.YtnjnndodfdghbaaMacM
import Derived.Test.YtnjnndodfdghbaaWRank3
import Derived.Deep.MidRow
import Derived.Deep.LoopGhost
namespace Go.Proofs.Ytnjnndodfdghbaa
open Go.RowKit

set_option maxRecDepth 100000 in
set_option maxHeartbeats 2000000 in
theorem risesSum (p : List Int) (n : Nat) (a : Option Addr) (cap : Nat) (w : World) (h : Sa w a (ints p)) (hn : p.length = n) (hp : IsP p) (h10 : n ≤ 10) :
    Calls Try.prog 39 #[.slice a n cap] w fun e w' => e = .returned (.tuple #[.int .i64 (majK p n : Nat), .int .i64 0]) ∧ Below w.heap.size w w' := by
  have HN := Lib.hid hn; have HS := Lib.hid h; have HP := Lib.hid hp
  clear hn h hp
  go_enter Try.func39, Try.ntmps39
  go_wp2_with fail
  refine (permChk p n _ _ _ HS.out HN.out HP.out (by omega)).mono ?_; rintro e w1 ⟨rfl, F1⟩
  go_wp2_with fail
  go_loopw [5, 6] (fun s i wr => ∃ k : Nat, i = .int .i64 ((k : Int) + 1) ∧ (k + 1 ≤ n ∨ k = 0) ∧ s = .int .i64 (majK p (k + 1) : Nat) ∧ Fr w wr []) (fun _ i _ => n + 1 - (intOf i).toNat)
  case atStart => exact ⟨0, rfl, .inr rfl, by simp [majK], F1⟩
  case round =>
    obtain ⟨k, rfl, hk, rfl, hfr⟩ := hrel
    clear F1
    have sb := majK_le p (k + 1)
    by_cases hlt : k + 1 < n
    · have sb2 : majK p (k + 1) ≤ 100 := Nat.le_trans sb (Nat.mul_le_mul (show k + 1 ≤ 10 by omega) (show k + 1 ≤ 10 by omega))
      obtain ⟨b1, o1, rfl, hb1, c1⟩ := (hfr.old HS.out).int (k + 1) (by rw [HN.out]; exact hlt)
      obtain ⟨b2, o2, e, hb2, c2⟩ := (hfr.old HS.out).int k (by rw [HN.out]; omega)
      cases e
      have d1 : (0 : Int) ≤ (k : Int) := by omega
      have d2 : (k : Int) < (n : Int) := by omega
      have d3 : (0 : Int) ≤ (k : Int) + 1 := by omega
      have d4 : (k : Int) + 1 < (n : Int) := by omega
      have e1 : (k : Int) + 1 - 1 = (k : Int) := by omega
      have st : majK p (k + 1 + 1) = majK p (k + 1) + if nth p (k + 1) < nth p k then k + 1 else 0 := by
        rw [majK]; simp
      obtain ⟨s, hs⟩ : ∃ s, majK p (k + 1) = s := ⟨_, rfl⟩
      rw [hs] at sb2 st ⊢
      obtain ⟨x, hx⟩ : ∃ x, nth p (k + 1) = x := ⟨_, rfl⟩
      obtain ⟨y, hy⟩ : ∃ y, nth p k = y := ⟨_, rfl⟩
      rw [hx] at c1 st
      rw [hy] at c2 st
      clear hx hy sb hs hk
      by_cases hxy : x < y
      · rw [if_pos hxy] at st
        have ST := Lib.hid st
        have d6 : decide (x < y) = true := decide_eq_true hxy
        clear st
        go_wp2_with fail
        go_region
        go_wp2_with fail
        exact ⟨⟨k + 1, by congr 1, .inl (by omega), by rw [ST.out]; rfl, hfr.drew⟩, by simp only [intOf]; omega⟩
      · rw [if_neg hxy] at st
        have ST := Lib.hid st
        have d6 : decide (x < y) = false := decide_eq_false hxy
        clear st
        go_wp2_with fail
        go_region
        go_wp2_with fail
        exact ⟨⟨k + 1, by congr 1, .inl (by omega), by rw [ST.out]; rfl, hfr.drew⟩, by simp only [intOf]; omega⟩
    · have HM : Hid (majK p (k + 1) = majK p n) := Lib.hid (by
        rcases hk with hk | rfl
        · rw [show k + 1 = n from by omega]
        · rcases Nat.eq_zero_or_pos n with rfl | h0
          · simp [majK]
          · rw [show n = 0 + 1 from by omega])
      clear sb hk
      go_wp2_with fail
      go_ret2
      exact ⟨by rw [HM.out]; rfl, hfr.bel⟩

/-- two arrays of the same numbers -/
theorem eqlInts (t e : TypeId) (n : Nat) (ht : Try.prog.underlying t = some (.array n e)) (he : Try.prog.underlying e = some (.int .i64)) (hi : (Try.prog.info? e).map (·.size) = some 1) (l : List Int) (hl : l.length = n) (w : World) :
    Sem.run Try.prog (binOp .eql t (.agg (ints l).toArray) (.agg (ints l).toArray)) w = .ok (.bool true) w := by
  have hsz : ∀ w, (sizeOf e).run Try.prog w = .ok 1 w := fun w => by
    cases h : Try.prog.info? e with
    | none => rw [h] at hi; cases hi
    | some i => rw [h] at hi; simp at hi; simp [sizeOf, typeInfo, h, hi]
  have key : (Op.equalIn 10000 t (.agg (ints l).toArray) (.agg (ints l).toArray)).run Try.prog w = .ok true w := by
    rw [show 10000 = 9998 + 2 from rfl, Op.equalIn]
    simp only [Sem.run_bind, run_underlying ht, Result.andThen_ok, hsz, Std.Legacy.Range.forIn_eq_forIn_range', Std.Legacy.Range.size, Nat.sub_zero, Nat.add_sub_cancel, Nat.div_one]
    have hll : ∀ i ∈ List.range' 0 n 1, i < n := fun i hi => by simpa using (List.mem_range'_1.1 hi).2
    generalize List.range' 0 n 1 = r at hll ⊢
    induction r with
    | nil => simp
    | cons i r ih =>
      have hi : i < n := hll i (by simp)
      have px : (part e (ints l).toArray (i * 1)).run Try.prog w = .ok (.int .i64 (nth l i)) w := by
        simp [part, isAgg, run_underlying he, ints, nth, show i < l.length by omega]
      have pe : (Op.equalIn (9998 + 1) e (.int .i64 (nth l i)) (.int .i64 (nth l i))).run Try.prog w = .ok true w := by
        rw [run_equalIn_int w 9998 e .i64 .i64 _ _ he]; simp
      simp only [List.forIn_cons, Sem.run_bind, px, pe, Result.andThen_ok]
      simp only [Bool.not_true, Bool.false_eq_true, if_false, Sem.run_pure, Result.andThen_ok]
      exact ih fun j hj => hll j (by simp [hj])
  rw [run_eql_struct, key]; rfl
/-- a whole array is read, in an operation that may be guarded -/
theorem wpList_loadArr {ops : Array Oper} {rest : List Oper} {op : Oper} {a : Act} {w : World} {Q : Exit → Act → World → Prop} (ty : TypeId) (x : Operand) (ho : op.op = .load ty x) (hw : Region.wanted op (yielded ops a.tmps) = true)
    (p v : Value) (hx : a.eval x = p) (hl : Sem.run Try.prog (Instr.loadAt ty p) w = .ok v w) (h : wpList Try.prog ops Q rest (a.put op.dst v) w) : wpList Try.prog ops Q (op :: rest) a w :=
  wpList_step fun K hK => by
    simp only [hw, if_true]
    unfold Oper.wp execOp
    simp only [ho, hx, hl, Sem.run_bind, Result.andThen_ok]
    exact hK _ _ h
theorem Fr.loadArr {w0 w : World} {L : List Ent} {T ty : TypeId} {g n cap : Nat} {l : List Int} (h : Fr w0 w (⟨T, .slice (some ⟨g, 0, .none⟩) n cap, ints l⟩ :: L)) (d : TypeDesc) (hu : Try.prog.underlying ty = some d) (hd : d.isRow = true) (hi : (Try.prog.info? ty).map (·.size) = some l.length) :
    Sem.run Try.prog (Instr.loadAt ty (.pointer (some ⟨g, 0, .none⟩))) w = .ok (.agg (ints l).toArray) w :=
  run_loadAt_mid w g 0 ty (ints l) d (fun j v hv => by
    have hj : j < (ints l).length := (List.getElem?_eq_some_iff.1 hv).1
    obtain ⟨b, off, e, _, hc⟩ := (h.get 0 rfl).at j hj
    cases e
    rw [hc]; exact hv) hu hd (by rw [ints_len]; exact hi)

theorem fac720 : ∀ n, n < 7 → facN n ≤ 720 := by decide
set_option maxRecDepth 100000 in
set_option maxHeartbeats 8000000 in
theorem risesMac_any (n0 : Int) (w : World) :
    Calls Try.prog 11 #[.int .i64 n0] w fun e w' => e = .returned (.bool true) ∧ Below w.heap.size w w' := by
  obtain ⟨n, hn, h7⟩ : ∃ n : Nat, n0 % 7 = n ∧ n < 7 := ⟨(n0 % 7).toNat, by have := Int.emod_nonneg n0 (b := 7) (by omega); omega, by have := Int.emod_nonneg n0 (b := 7) (by omega); have := Int.emod_lt_of_pos n0 (b := 7) (by omega); omega⟩
  have HN := Lib.hid hn
  have P0 := Lib.hid (show IsP [1, 2, 0] from isP_lit _ (by decide) (by decide))
  have m0 : majK [1, 2, 0] 3 = 2 := by decide
  have M0 := Lib.hid m0
  obtain ⟨k1, k2, k3⟩ := mac_math n h7
  have K1 := Lib.hid k1; have K2 := Lib.hid k2; have K3 := Lib.hid k3
  have f7 := fac720 n h7
  obtain ⟨G, hG⟩ : ∃ G, facN n = G := ⟨_, rfl⟩
  have HG := Lib.hid hG
  have gp := facN_pos n
  rw [hG] at f7 gp
  clear hn m0 k1 k2 k3 hG
  go_enter Try.func11, Try.ntmps11
  go_wp2_with fail
  have F1 := (Fr.start w).lit [1, 2, 0] #[.int .i64 1, .int .i64 2, .int .i64 0] rfl 3 rfl (by omega) 3
  refine (risesSum [1, 2, 0] 3 _ _ _ (F1.get 0 rfl) rfl P0.out (by omega)).mono ?_; rintro e w1 ⟨rfl, hb⟩
  rw [M0.out]
  have F2 := F1.below.keep hb
  clear F1 hb
  go_wp2_with fail
  refine (within_any _ _ _ (by omega) (by omega)).mono ?_; rintro e w' ⟨rfl, rfl⟩
  rw [HN.out]
  go_wp2_with fail
  refine (rankAt n 0 _ (by omega) (facN_pos n)).mono ?_; rintro e w2 ⟨ad2, cp2, rfl, hc2, hf⟩
  have F3 := F2.call hf
  clear F2 hf
  go_wp2_with fail
  have F4 := F3.new 48 #[.int .i64 0, .int .i64 0, .int .i64 0, .int .i64 0, .int .i64 0, .int .i64 0, .int .i64 0, .int .i64 0, .int .i64 0, .int .i64 0, .int .i64 0, .int .i64 0, .int .i64 0, .int .i64 0, .int .i64 0, .int .i64 0, .int .i64 0, .int .i64 0, .int .i64 0, .int .i64 0, .int .i64 0, .int .i64 0, .int .i64 0, .int .i64 0, .int .i64 0, .int .i64 0, .int .i64 0, .int .i64 0, .int .i64 0, .int .i64 0, .int .i64 0, .int .i64 0] (ints (tabF (fMaj n) 0)) rfl 32 rfl (by omega)
  have F5 := F4.new 48 #[.int .i64 0, .int .i64 0, .int .i64 0, .int .i64 0, .int .i64 0, .int .i64 0, .int .i64 0, .int .i64 0, .int .i64 0, .int .i64 0, .int .i64 0, .int .i64 0, .int .i64 0, .int .i64 0, .int .i64 0, .int .i64 0, .int .i64 0, .int .i64 0, .int .i64 0, .int .i64 0, .int .i64 0, .int .i64 0, .int .i64 0, .int .i64 0, .int .i64 0, .int .i64 0, .int .i64 0, .int .i64 0, .int .i64 0, .int .i64 0, .int .i64 0, .int .i64 0] (ints (tabF (fCr n) 0)) rfl 32 rfl (by omega)
  obtain ⟨A, hA⟩ : ∃ A, w2.heap.size = A := ⟨_, rfl⟩
  obtain ⟨B, hB⟩ : ∃ B, A + 1 = B := ⟨_, rfl⟩
  simp only [World.size_alloc] at F5
  rw [hA] at F5
  rw [hB] at F5
  have F6 := F5.rot.rot.swap
  rw [hA, hB]
  go_loopg [5, 6] (G + 1) (fun gk p e wr => ∃ (t : Nat) (ad : Option Addr) (k cp : Nat) (er : Int) (q : List Int), p = .slice ad k cp ∧ e = .int .i64 er ∧ Hid (er = 0 ∧ t < G ∧ k = n ∧ q = atS n (upTo n) t ∧ n ≤ cp ∨ er = 4 ∧ t = G) ∧ (gk = G - t + (if er = 0 then 1 else 0)) ∧ Fr w wr [⟨3, .slice ad k cp, ints q⟩, ⟨48, .slice (some ⟨A, 0, none⟩) 32 32, ints (tabF (fMaj n) t)⟩, ⟨48, .slice (some ⟨B, 0, none⟩) 32 32, ints (tabF (fCr n) t)⟩])
  case atStart => exact ⟨0, ad2, n, cp2, 0, _, rfl, rfl, Lib.hid (.inl ⟨rfl, gp, rfl, rfl, hc2⟩), by simp, F6⟩
  case round =>
    obtain ⟨t, ad, k, cp, er, q, rfl, rfl, HD, hg, hfr⟩ := hrel
    have nab : A ≠ B := by omega
    have nba : B ≠ A := by omega
    clear F3 F4 F5 F6 hA hB
    rcases HD.out with ⟨rfl, hlt, rfl, hq, hcq⟩ | ⟨rfl, rfl⟩
    · rw [if_pos rfl] at hg
      have HGK := Lib.hid hg
      have hlt2 : t < facN k := by rw [HG.out]; exact hlt
      have HPQ : Hid (IsP q) := Lib.hid (by rw [hq]; exact at_isP k t hlt2)
      have HLQ : Hid (q.length = k) := Lib.hid (by rw [hq, atS_len])
      have HRQ : Hid (ofC (codeL q) = t) := Lib.hid (by rw [hq]; exact atS_code k _ t (upTo_len k) hlt2 (upTo_incr k))
      obtain ⟨i1, j1⟩ := K1.out t hlt2
      have b1 := tabF_bd (fMaj k) (fMaj k t) i1 t (fun j hj => (K1.out j (by omega)).1)
      have b2 := tabF_bd (fCr k) (fCr k t) j1 t (fun j hj => (K1.out j (by omega)).2)
      have s1 : (tabF (fMaj k) t).set (fMaj k t) (nth (tabF (fMaj k) t) (fMaj k t) + 1) = tabF (fMaj k) (t + 1) := rfl
      have s2 : (tabF (fCr k) t).set (fCr k t) (nth (tabF (fCr k) t) (fCr k t) + 1) = tabF (fCr k) (t + 1) := rfl
      have m1 : majK q k = fMaj k t := by rw [hq]; rfl
      have m2 : crossK q k = fCr k t := by rw [hq]; rfl
      obtain ⟨I, hI⟩ : ∃ I, fMaj k t = I := ⟨_, rfl⟩
      obtain ⟨J, hJ⟩ : ∃ J, fCr k t = J := ⟨_, rfl⟩
      rw [hI] at i1 b1 s1 m1
      rw [hJ] at j1 b2 s2 m2
      obtain ⟨x, hx⟩ : ∃ x, nth (tabF (fMaj k) t) I = x := ⟨_, rfl⟩
      obtain ⟨y, hy⟩ : ∃ y, nth (tabF (fCr k) t) J = y := ⟨_, rfl⟩
      rw [hx] at b1 s1
      rw [hy] at b2 s2
      obtain ⟨x1, x2⟩ := b1
      obtain ⟨y1, y2⟩ := b2
      have x3 : x ≤ 720 := by omega
      have y3 : y ≤ 720 := by omega
      have HX := Lib.hid hx; have HY := Lib.hid hy; have S1 := Lib.hid s1; have S2 := Lib.hid s2; have M1 := Lib.hid m1; have M2 := Lib.hid m2
      have k10 : k ≤ 10 := by omega
      clear hq hg hI hJ hx hy s1 s2 m1 m2 x2 y2 HD
      go_wp2_with fail
      refine (risesSum q k _ _ _ (hfr.get 0 rfl) HLQ.out HPQ.out k10).mono ?_; rintro e w3 ⟨rfl, hb⟩
      rw [M1.out]
      have F7 := hfr.keep hb
      clear hfr hb
      go_wp2_with fail
      refine (crossed q k _ _ _ (F7.get 0 rfl) HLQ.out HPQ.out k10 hcq).mono ?_; rintro e w4 ⟨rfl, hb⟩
      rw [M2.out]
      have F8 := F7.keep hb
      clear F7 hb
      go_wp2_with fail
      refine (good2b _ w4.heap.size _ rfl).mono ?_; rintro e w' ⟨rfl, rfl⟩
      have F9 := (F8.alloc (.cells #[.int .i64 0, .int .i64 0] 23)).swap
      clear F8
      obtain ⟨_, e, _, c1, f1⟩ := F9.openI I (by rw [tabF_len]; exact i1)
      cases e
      rw [HX.out] at c1
      obtain ⟨_, e, _, c2, f2⟩ := F9.rot.openI J (by rw [tabF_len]; exact j1)
      cases e
      rw [HY.out] at c2
      have F10 := (F9.setInt I (x + 1)).rot
      have F11 := (F10.setInt J (y + 1)).rot
      rw [S1.out, S2.out] at F11
      have HF11 := Lib.hid F11
      have d1 : decide ((I : Int) < 0) = false := decide_eq_false (by omega)
      have d2 : decide ((31 : Int) < (I : Int)) = false := decide_eq_false (by omega)
      have d3 : decide ((J : Int) < 0) = false := decide_eq_false (by omega)
      have d4 : decide ((31 : Int) < (J : Int)) = false := decide_eq_false (by omega)
      clear F9 F10 F11
      go_wp2_with fail
      refine (rankNext q k _ _ _ (HF11.out.get 0 rfl) HLQ.out HPQ.out k10).mono ?_; rintro e w5 hn
      clear c1 c2 f1 f2
      rcases hn with ⟨hd, rfl, hf⟩ | ⟨q', i, ad7, cp7, hq, rfl, hc7, hf⟩
      · have F12 := ((HF11.out.call hf).tail.swap.nilSlice 3)
        have hl := last_rank hd
        rw [HRQ.out, HLQ.out, HG.out] at hl
        have hl2 : t + 1 = G := by omega
        clear hd hf hl
        go_wp2_with fail
        go_roundg (G - (t + 1))
        case measure => have := HGK.out; omega
        case rel => exact ⟨t + 1, none, 0, 0, 4, [], rfl, rfl, Lib.hid (.inr ⟨rfl, hl2⟩), by simp, F12⟩
      · have F12 := ((HF11.out.call hf).sub (List.Sublist.cons_cons _ (List.sublist_cons_self _ _))).rot.swap
        have hr := next_rank HPQ.out hq
        rw [HRQ.out] at hr
        have hb := rank_bd q'
        rw [hr, hq.len, HLQ.out, HG.out] at hb
        have hl2 : t + 1 < G := by omega
        have hq2 := at_of hq.isP k (by rw [hq.len, HLQ.out]) (t + 1) (by rw [hr]; rfl)
        have HQ2 := Lib.hid hq2.symm
        clear hq hf hb hr hq2
        go_wp2_with fail
        go_roundg (G - (t + 1) + 1)
        case measure => have := HGK.out; omega
        case rel => exact ⟨t + 1, ad7, k, cp7, 0, q', rfl, rfl, Lib.hid (.inl ⟨rfl, hl2, rfl, HQ2.out, hc7⟩), by simp, F12⟩
    · have e2 := K2.out
      have e3 := K3.out
      rw [HG.out] at e2 e3
      rw [← e2] at hfr
      obtain ⟨T, hT⟩ : ∃ T, tabF (fMaj n) t = T := ⟨_, rfl⟩
      have hl : T.length = 32 := by rw [← hT, tabF_len]
      rw [hT] at hfr e3
      have hL1 := hfr.swap.loadArr (ty := 48) (.array 32 3) Try.underlying48 rfl (by rw [hl]; kernel_rfl)
      have hL2 := hfr.rot.loadArr (ty := 48) (.array 32 3) Try.underlying48 rfl (by rw [hl]; kernel_rfl)
      have hE := eqlInts 48 3 32 Try.underlying48 Try.underlying3 intSize T hl
      obtain ⟨_, e, _, c1, f1⟩ := hfr.swap.openI 0 (by omega)
      cases e
      rw [e3] at c1
      clear hT e2 e3 hg HD
      go_wp2_with (first
        | (with_reducible refine at_slot 82 ?_; go_must (refine wpList_loadArr 48 _ rfl rfl (.pointer (some ⟨A, 0, .none⟩)) _ rfl hL1 ?_))
        | (with_reducible refine at_slot 83 ?_; go_must (refine wpList_loadArr 48 _ rfl rfl (.pointer (some ⟨B, 0, .none⟩)) _ rfl hL2 ?_)))
      go_ret
      exact ⟨by simp, hfr.bel⟩
end Go.Proofs.Ytnjnndodfdghbaa
