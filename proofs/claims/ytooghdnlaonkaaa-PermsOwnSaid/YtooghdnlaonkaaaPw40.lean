/- Several of my texts in one: GlaU. -/
import Derived.Test.YtooghdnlaonkaaaPw39
import Derived.Deep.MidRow
/- Contract of parts.Unlike over a right sum of odd numbers. -/
namespace Go.Proofs.Ytooghdnlaonkaaa
open Go.RowKit

/-- how often each number stands in the list -/
def cntL (l : List Int) : List Int := (List.range 41).map fun x : Nat => ((l.count (x : Int) : Nat) : Int)
theorem cntL_len (l : List Int) : (cntL l).length = 41 := by simp [cntL]
theorem cntL_nth (l : List Int) (x : Nat) (h : x < 41) : nth (cntL l) x = (l.count (x : Int) : Nat) := by simp [cntL, nth, h]
theorem cntL_snoc (l : List Int) (x : Nat) (h : x < 41) : (cntL l).set x (nth (cntL l) x + 1) = cntL (l ++ [(x : Int)]) := by
  refine ext_nth (by rw [List.length_set, cntL_len, cntL_len]) fun i hi => ?_
  rw [List.length_set, cntL_len] at hi
  rw [nth_set _ _ _ _ (by rw [cntL_len]; exact h), cntL_nth _ i hi, cntL_nth _ x h, cntL_nth _ i hi, List.count_append]
  by_cases e : i = x
  · subst e; rw [if_pos rfl]; simp
  · rw [if_neg e]
    have : ((x : Int) == (i : Int)) = false := by rw [beq_eq_false_iff_ne]; omega
    simp [List.count_cons, this]
theorem wpList_loadArr {ops : Array Oper} {rest : List Oper} {op : Oper} {a : Act} {w : World} {Q : Exit → Act → World → Prop} (ty : TypeId) (x : Operand) (ho : op.op = .load ty x) (hw : Region.wanted op (yielded ops a.tmps) = true)
    (p v : Value) (hx : a.eval x = p) (hl : Sem.run Try.prog (Instr.loadAt ty p) w = .ok v w) (h : wpList Try.prog ops Q rest (a.put op.dst v) w) : wpList Try.prog ops Q (op :: rest) a w :=
  wpList_step fun K hK => by
    simp only [hw, if_true]
    unfold Oper.wp execOp
    simp only [ho, hx, hl, Sem.run_bind, Result.andThen_ok]
    exact hK _ _ h
theorem Fr.loadArr {w0 w : World} {L : List Ent} {T ty : TypeId} {g n cap : Nat} {l : List Int} (h : Fr w0 w (⟨T, .slice (some ⟨g, 0, .none⟩) n cap, ints l⟩ :: L)) (d : TypeDesc) (hu : Try.prog.underlying ty = some d) (hd : d.isRow = true) (hi : (Try.prog.info? ty).map (·.size) = some l.length) :
    Sem.run Try.prog (Instr.loadAt ty (.pointer (some ⟨g, 0, .none⟩))) w = .ok (.agg (ints l).toArray) w :=
  run_loadAt_mid w g 0 ty (ints l) d (fun j v hv => by
    have hj : j < (ints l).length := (List.getElem?_eq_some_iff.1 hv).1
    obtain ⟨b, off, e, _, hc⟩ := (h.get 0 rfl).at j hj
    cases e
    rw [hc]; exact hv) hu hd (by rw [ints_len]; exact hi)

theorem unlikeTo_succ (l : List Int) (m : Nat) : unlikeTo l (m + 1) = unlikeTo l m ++ binL (m : Int) 6 (l.count (m : Int)) 1 := by
  unfold unlikeTo
  rw [List.range_succ, List.flatMap_append]; simp
theorem binL_len (x : Int) : ∀ f n y, (binL x f n y).length ≤ f
  | 0, _, _ => by simp [binL]
  | f + 1, n, y => by
    rw [binL]
    have := binL_len x f (n / 2) (2 * y)
    split
    · simp
    · rw [List.length_append]; split <;> simp <;> omega
theorem unl_len (l : List Int) : ∀ m, (unlikeTo l m).length ≤ 6 * m
  | 0 => by simp [unlikeTo]
  | m + 1 => by
    have := unl_len l m
    have := binL_len (m : Int) 6 (l.count (m : Int)) 1
    rw [unlikeTo_succ, List.length_append]; omega
/-- a[i] of an array of ints by value -/
theorem run_indexArr (t e : TypeId) (n : Nat) (ht : Try.prog.underlying t = some (.array n e)) (he : Try.prog.underlying e = some (.int .i64)) (hi : (Try.prog.info? e).map (·.size) = some 1) (l : List Int) (hl : l.length = n) (x : Nat) (hx : x < n) (w : World) :
    Sem.run Try.prog (Instr.index t (.agg (ints l).toArray) (.int .i64 (x : Int))) w = .ok (.int .i64 (nth l x)) w := by
  have hsz : ∀ w, (sizeOf e).run Try.prog w = .ok 1 w := fun w => by
    cases h : Try.prog.info? e with
    | none => rw [h] at hi; cases hi
    | some i => rw [h] at hi; simp at hi; simp [sizeOf, typeInfo, h, hi]
  have px : (part e (ints l).toArray (x * 1)).run Try.prog w = .ok (.int .i64 (nth l x)) w := by
    simp [part, isAgg, run_underlying he, ints, nth, show x < l.length by omega]
  unfold Instr.index
  simp only [asIntOf, Sem.run_bind, Sem.run_pure, Result.andThen_ok, run_underlying ht]
  rw [if_pos (by omega)]
  simp only [Sem.run_bind, hsz, Result.andThen_ok, Int.toNat_natCast]
  exact px
set_option maxRecDepth 100000 in
set_option maxHeartbeats 8000000 in
theorem partUnlike (hsort : SortsDown 112) (l : List Int) (n : Nat) (a : Option Addr) (cap : Nat) (w : World) (h : Sa w a (ints l)) (hn : l.length = n) (hp : PartOk l) (ho : AllOdd l) :
    Calls Try.prog 63 #[.slice a n cap] w (OneSlI (desc (unlikeTo l 41)) 0 w) := by
  have hl := hp.len
  rw [hn] at hl
  have HN := Lib.hid hn; have HS := Lib.hid h; have HP := Lib.hid hp; have HO := Lib.hid ho; have HSort := Lib.hid hsort
  clear hn h hp ho hsort
  go_enter Try.func63, Try.ntmps63
  go_wp2_with fail
  refine (partChk l n _ _ _ HS.out HN.out HP.out).mono ?_; rintro e w' ⟨rfl, rfl⟩
  go_wp2_with fail
  have F1 := (Fr.start w).new 147 (Array.replicate 41 (.int .i64 0)) (ints (cntL [])) (by rfl) 41 rfl (by omega)
  go_loopw [19] (fun i wr => ∃ k : Nat, k ≤ n ∧ i = .int .i64 k ∧ Fr w wr [⟨147, .slice (some ⟨w.heap.size, 0, none⟩) 41 41, ints (cntL (l.take k))⟩]) (fun i _ => n - (intOf i).toNat)
  case atStart => exact ⟨0, by omega, rfl, F1⟩
  case round =>
    obtain ⟨k, hk, rfl, hfr⟩ := hrel
    clear F1
    by_cases hlt : k < n
    · obtain ⟨b, off, rfl, hb, hc⟩ := (hfr.old HS.out).int k (by rw [HN.out]; exact hlt)
      have hx := part_pos' HP.out _ (nth_mem l k (by rw [HN.out]; exact hlt))
      have hodd := HO.out _ (nth_mem l k (by rw [HN.out]; exact hlt))
      obtain ⟨x, hxe⟩ : ∃ x : Nat, nth l k = x := ⟨(nth l k).toNat, by omega⟩
      have hst := cntL_snoc (l.take k) x (by omega)
      have hcx := cntL_nth (l.take k) x (by omega)
      have hcb : (l.take k).count (x : Int) ≤ 40 := by
        have := List.count_le_length (a := (x : Int)) (l := l.take k)
        rw [List.length_take] at this; omega
      rw [← hxe, ← take_nth l k (by rw [HN.out]; exact hlt)] at hst
      rw [hxe] at hc hx hodd
      rw [hcx] at hst
      obtain ⟨g, e, _, c1, z1⟩ := hfr.openI x (by rw [cntL_len]; omega)
      cases e
      rw [hcx] at c1
      obtain ⟨q, hq⟩ : ∃ q, (l.take k).count (x : Int) = q := ⟨_, rfl⟩
      rw [hq] at c1 hst hcb
      have F2 := hfr.setInt x ((q : Int) + 1)
      rw [hst] at F2
      have HF2 := Lib.hid F2
      have HFR := Lib.hid hfr
      clear hst hcx hxe hq F2 hfr
      have d1 : decide ((x : Int) < 0) = false := decide_eq_false (by omega)
      have d2 : decide ((40 : Int) < (x : Int)) = false := decide_eq_false (by omega)
      have d3 : decide (41 ≤ x) = false := decide_eq_false (by omega)
      go_wp2_with fail
      go_roundw
      case rel => exact ⟨k + 1, by omega, by go_num, HF2.out⟩
      case measure => simp only [intOf]; omega
    · obtain rfl : k = n := by omega
      rw [List.take_of_length_le (by rw [HN.out]; omega)] at hfr
      have hL1 := hfr.loadArr (ty := 147) (.array 41 3) Try.underlying147 rfl (by rw [cntL_len]; kernel_rfl)
      have HL1 := Lib.hid hL1
      have HF := Lib.hid hfr.below
      clear hfr hlt
      go_wp2_with (with_reducible refine at_slot 32 ?_; go_must (refine wpList_loadArr 147 _ rfl rfl (.pointer (some ⟨w.heap.size, 0, .none⟩)) _ rfl HL1.out ?_))
      have hidx : ∀ x, x < 41 → ∀ W, Sem.run Try.prog (Instr.index 147 (.agg (ints (cntL l)).toArray) (.int .i64 ((x : Nat) : Int))) W = .ok (.int .i64 ((l.count (x : Int) : Nat) : Int)) W := fun x hx W => by
        rw [← cntL_nth l x hx]
        exact run_indexArr 147 3 41 Try.underlying147 Try.underlying3 intSize (cntL l) (cntL_len l) x hx W
      have HIDX := Lib.hid hidx
      clear hidx
      obtain ⟨V, hV⟩ : ∃ V, (ints (cntL l)).toArray = V := ⟨_, rfl⟩
      rw [hV] at HIDX ⊢
      clear hV hL1 HL1
      go_loopw [8, 33] (fun o i wr => ∃ (x c : Nat) (ad : Option Addr) (cp : Nat), x ≤ 41 ∧ i = .int .i64 x ∧ o = .slice ad c cp ∧ Hid ((unlikeTo l x).length = c) ∧ Fr w wr [⟨3, .slice ad c cp, ints (unlikeTo l x)⟩]) (fun _ i _ => 41 - (intOf i).toNat)
      case atStart => exact ⟨0, 0, none, 0, by omega, rfl, rfl, Lib.hid rfl, HF.out.nilSlice _⟩
      case round =>
        obtain ⟨x, c, ad, cp, hx, rfl, rfl, HC, hfr⟩ := hrel
        have hc : c ≤ 246 := by have := unl_len l x; rw [HC.out] at this; omega
        by_cases hlt : x < 41
        · have hidx := HIDX.out x hlt
          have hs := Lib.hid (unlikeTo_succ l x)
          have hcb : l.count (x : Int) ≤ 40 := by
            have := List.count_le_length (a := (x : Int)) (l := l)
            rw [HN.out] at this; omega
          obtain ⟨q, hq⟩ : ∃ q, l.count (x : Int) = q := ⟨_, rfl⟩
          rw [hq] at hidx hs hcb
          obtain ⟨O, hO⟩ : ∃ O, unlikeTo l x = O := ⟨_, rfl⟩
          rw [hO] at HC hs hfr
          have HFR := Lib.hid hfr
          clear hq hO hfr
          have e1 : (0 : Int) ≤ (x : Int) := by omega
          have e2 : (x : Int) < 41 := by omega
          go_wp2_with fail
          clear hidx
          go_loopw [8, 10, 11] (fun o n y wq => ∃ (t f N B c2 : Nat) (pre : List Int) (ad2 : Option Addr) (cp2 : Nat), t + f = 6 ∧ N < pw f ∧ B = pw t ∧ n = .int .i64 N ∧ y = .int .i64 B ∧ o = .slice ad2 c2 cp2 ∧ Hid (pre ++ binL x f N B = binL x 6 q 1 ∧ c + pre.length = c2) ∧ Fr w wq [⟨3, .slice ad2 c2 cp2, ints (O ++ pre)⟩]) (fun _ n _ _ => (intOf n).toNat)
          case atStart => exact ⟨0, 6, q, 1, c, [], ad, cp, rfl, by unfold pw; omega, rfl, rfl, rfl, rfl, Lib.hid ⟨rfl, rfl⟩, by simpa using HFR.out⟩
          case round =>
            obtain ⟨t, f, N, B, c2, pre, ad2, cp2, htf, hN, hB, rfl, rfl, rfl, HI, hfq⟩ := hrel
            have hc2 : c2 ≤ 252 := by
              have h1 := HI.out.2
              have h2 := congrArg List.length HI.out.1
              have h3 := binL_len (x : Int) 6 q 1
              rw [List.length_append] at h2
              omega
            by_cases hN0 : 0 < N
            · obtain ⟨f', rfl⟩ : ∃ f', f = f' + 1 := by
                cases f with
                | zero => unfold pw at hN; simp at hN; omega
                | succ f' => exact ⟨f', rfl⟩
              have hNf : N < 64 := by
                have : ∀ t, t < 7 → pw t ≤ 64 := by decide
                have := this (f' + 1) (by omega)
                omega
              have hB32 : B ≤ 32 := by rw [hB]; exact (pw_bd t (by omega)).2
              have hB1 : 1 ≤ B := by rw [hB]; exact (pw_bd t (by omega)).1
              have hN2 : N / 2 < pw f' := by rw [pw_succ] at hN; omega
              have hB2 : 2 * B = pw (t + 1) := by rw [pw_succ, hB]
              have hun : binL (x : Int) (f' + 1) N (B : Int) = (if N % 2 = 1 then [(x : Int) * B] else []) ++ binL x f' (N / 2) ((2 * B : Nat) : Int) := by
                rw [binL, if_neg (by omega)]
                congr 1
              have HB2 := Lib.hid hB2
              have HFQ := Lib.hid hfq
              have hy : (x : Int) * (B : Int) = ((x * B : Nat) : Int) := by rw [Int.natCast_mul]
              have hyb : x * B ≤ 1280 := Nat.mul_le_mul (show x ≤ 40 by omega) hB32
              obtain ⟨Y, hY⟩ : ∃ Y, x * B = Y := ⟨_, rfl⟩
              rw [hY] at hy hyb
              have HYE := Lib.hid hy
              obtain ⟨M, hM⟩ : ∃ M, N / 2 = M := ⟨_, rfl⟩
              have e3 : (N : Int) / 2 = (M : Int) := by omega
              rw [hM] at hun hN2
              have hMN : M < N := by omega
              have HUN := Lib.hid hun; have HN2 := Lib.hid hN2
              have hp2 : N % 2 = 1 ∨ N % 2 = 0 := by omega
              clear hun hN2 hB2 hN hB hfq hY hM hp2
              by_cases hodd : N % 2 = 1
              · have e4 : (N : Int) % 2 = 1 := by omega
                rw [if_pos hodd] at HUN
                clear hodd
                go_wp2_with (with_reducible refine at_slot 51 ?_; go_must (refine wpList_pushInt rfl _ _ rfl ad2 c2 cp2 _ (Y : Int) _ rfl HFQ.out rfl ?_ ?_); rotate_left; intro ad3 cp3 w3 hf3 hlt3)
                · rw [List.append_assoc] at hf3
                  go_roundw
                  case rel => exact ⟨t + 1, f', M, 2 * B, c2 + 1, pre ++ [(Y : Int)], ad3, cp3, by omega, HN2.out, HB2.out, rfl, by go_num, rfl, Lib.hid ⟨by rw [← HI.out.1, HUN.out, HYE.out, List.append_assoc], by rw [List.length_append, ← HI.out.2]; simp; omega⟩, hf3⟩
                  case measure => simp only [intOf]; omega
                · omega
              · have e4 : (N : Int) % 2 = 0 := by omega
                rw [if_neg hodd, List.nil_append] at HUN
                clear hodd hy
                go_wp2_with fail
                go_roundw
                case rel => exact ⟨t + 1, f', M, 2 * B, c2, pre, ad2, cp2, by omega, HN2.out, HB2.out, rfl, by go_num, rfl, Lib.hid ⟨by rw [← HI.out.1, HUN.out], HI.out.2⟩, HFQ.out⟩
                case measure => simp only [intOf]; omega
            · obtain rfl : N = 0 := by omega
              have hpre : pre = binL x 6 q 1 := by rw [← HI.out.1, binL_zero, List.append_nil]
              have HPRE := Lib.hid hpre
              clear hpre hN hB hN0
              go_wp2_with fail
              exact ⟨⟨x + 1, c2, ad2, cp2, by omega, by simp, rfl, Lib.hid (by rw [hs.out, List.length_append, HC.out, ← HPRE.out, HI.out.2]), by rw [hs.out, ← HPRE.out]; exact hfq⟩, by simp only [intOf]; omega⟩
        · obtain rfl : x = 41 := by omega
          have hcall := HSort.out w [] (unlikeTo l 41) c cp ad wr hfr (by omega) (fun z hz => by have := unl_bd ⟨part_pos' HP.out, by rw [HN.out]; omega⟩ HO.out z hz; omega)
          go_wp2_with (go_at_call 98; refine hcall.mono ?_; rintro e w2 ⟨rfl, F2⟩)
          go_ret2
          have hc2 := HC.out
          subst hc2
          have e1 : (desc (unlikeTo l 41)).length = (unlikeTo l 41).length := desc_len _
          exact ⟨ad, cp, by rw [e1]; rfl, by rw [e1]; exact F2.cap, by rw [e1]; exact F2⟩
end Go.Proofs.Ytooghdnlaonkaaa
