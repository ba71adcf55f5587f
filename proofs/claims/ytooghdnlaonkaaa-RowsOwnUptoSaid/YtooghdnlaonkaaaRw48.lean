/- Several of my texts in one: OrbK, OrbH, OrbM2. -/
import Derived.Test.YtooghdnlaonkaaaRw20
import Derived.Deep.MidRow
import Derived.Deep.DeepCutAuto
import Derived.Test.YtooghdnlaonkaaaRw23
import Derived.WideKeyPair
/- orbits.key: an order as the key of a map. -/
namespace Go.Proofs.Ytooghdnlaonkaaa
open Go.RowKit

/-- copy into an array of the call's own, from its head on -/
theorem wpList_copyArr {ops : Array Oper} {rest : List Oper} {o : Oper} {a : Act} {Q : Exit → Act → World → Prop} {w0 w : World} (hgd : o.guard = none) (d s : Operand) (S S' T U : TypeId)
    (hS : Try.prog.underlying S = some (.slice U)) (hsz : (Try.prog.info? U).map (·.size) = some 1)
    (ho : o.op = .call { callee := .builtin .copy, args := #[d, s], argTypes := #[S, S'] })
    (ad sp : Option Addr) (n cap m scap : Nat) (xs ys : List Value) (L : List Ent) (hd : a.eval d = .slice ad n cap) (hs : a.eval s = .slice sp m scap) (hF : Fr w0 w (⟨T, .slice ad n cap, xs⟩ :: L))
    (hY : Sa w sp ys) (hm : ys.length = m) (hmn : m ≤ n) (h1 : ∀ v ∈ ys, v.oneCell' = true)
    (h : ∀ w', Fr w0 w' (⟨T, .slice ad n cap, ys ++ xs.drop m⟩ :: L) → w.heap.size ≤ w'.heap.size → wpList Try.prog ops Q rest (a.put o.dst (goInt m)) w') :
    wpList Try.prog ops Q (o :: rest) a w := by
  by_cases h0 : m = 0
  · subst h0
    obtain rfl := List.eq_nil_of_length_eq_zero hm
    refine wpList_copy_nothing hgd d s S S' ho U hS hsz ad sp n cap 0 scap hd hs (by simp) ?_
    exact h w hF (Nat.le_refl _)
  · obtain ⟨b, off, rfl, hb, hc⟩ := hY (by omega)
    have hO := hF.os.own _ List.mem_cons_self
    obtain ⟨hn, h2⟩ := hO.elim
    rcases h2 with ⟨_, _, rfl⟩ | ⟨g, cur, rfl, h2, h3, h4, h5, h6, h7⟩
    · simp at hn; omega
    · refine wpList_copy_own hgd d s S S' ho U hS hsz g 0 n cap ⟨b, off, none⟩ m scap hd hs cur T h3 ys (by rw [hm]; exact (Nat.min_eq_left hmn).symm) ?_ (by omega) h1 ?_
      · intro j v hj
        have hjl : j < ys.length := (List.getElem?_eq_some_iff.1 hj).1
        have := hc j hjl
        rw [show ((⟨b, off, none⟩ : Addr).add j) = ⟨b, off + j, none⟩ from by unfold Addr.add; split <;> simp_all, this, hj]
      · rw [hm]
        refine h _ (hF.setRow cur h3 _ ?_ _ ?_) (by simp)
        · simp; omega
        · simp only [List.take_zero, List.nil_append, Nat.zero_add]
          rw [← h7, List.take_append, hm, List.take_of_length_le (by omega), List.take_drop, show m + (n - m) = n from by omega]
theorem wpList_loadAr {ops : Array Oper} {rest : List Oper} {op : Oper} {a : Act} {w : World} {Q : Exit → Act → World → Prop} (ty : TypeId) (x : Operand) (ho : op.op = .load ty x) (hw : Region.wanted op (yielded ops a.tmps) = true)
    (p v : Value) (hx : a.eval x = p) (hl : Sem.run Try.prog (Instr.loadAt ty p) w = .ok v w) (h : wpList Try.prog ops Q rest (a.put op.dst v) w) : wpList Try.prog ops Q (op :: rest) a w :=
  wpList_step fun K hK => by
    simp only [hw, if_true]
    unfold Oper.wp execOp
    simp only [ho, hx, hl, Sem.run_bind, Result.andThen_ok]
    exact hK _ _ h
theorem Fr.loadAr {w0 w : World} {L : List Ent} {T ty : TypeId} {g n cap : Nat} {l : List Int} (h : Fr w0 w (⟨T, .slice (some ⟨g, 0, .none⟩) n cap, ints l⟩ :: L)) (d : TypeDesc) (hu : Try.prog.underlying ty = some d) (hd : d.isRow = true) (hi : (Try.prog.info? ty).map (·.size) = some l.length) :
    Sem.run Try.prog (Instr.loadAt ty (.pointer (some ⟨g, 0, .none⟩))) w = .ok (.agg (ints l).toArray) w :=
  run_loadAt_mid w g 0 ty (ints l) d (fun j v hv => by
    have hj : j < (ints l).length := (List.getElem?_eq_some_iff.1 hv).1
    obtain ⟨b, off, e, _, hc⟩ := (h.get 0 rfl).at j hj
    cases e
    rw [hc]; exact hv) hu hd (by rw [ints_len]; exact hi)
def pad6 (q : List Int) : List Int := q ++ List.replicate (6 - q.length) 0
theorem pad6_six {q : List Int} (h : q.length ≤ 6) : ∃ a b c d e f, pad6 q = [a, b, c, d, e, f] := by
  have hl : (pad6 q).length = 6 := by unfold pad6; rw [List.length_append, List.length_replicate]; omega
  match hp : pad6 q, hl with
  | [a, b, c, d, e, f], _ => exact ⟨a, b, c, d, e, f, rfl⟩
set_option maxRecDepth 100000 in
set_option maxHeartbeats 4000000 in
theorem orbKey (q : List Int) (n : Nat) (a : Option Addr) (cap : Nat) (w : World) (h : Sa w a (ints q)) (hn : q.length = n) (h6 : n ≤ 6) :
    Calls Try.prog 83 #[.slice a n cap] w fun e w' => e = .returned (.agg (ints (pad6 q)).toArray) ∧ Fr w w' [] := by
  have HS := Lib.hid h
  have HN : Hid ((ints q).length = n) := Lib.hid (by rw [ints_len, hn])
  obtain ⟨x0, x1, x2, x3, x4, x5, hp⟩ := pad6_six (q := q) (by omega)
  have hdr : ints q ++ (List.replicate 6 (Value.int .i64 0)).drop n = ints (pad6 q) := by
    unfold pad6
    rw [← hn, List.drop_replicate, ints_rep, ints, ints, ints, ← List.map_append]
  rw [hp] at hdr ⊢
  have HDr := Lib.hid hdr
  obtain ⟨N, hN⟩ : ∃ N, w.heap.size = N := ⟨_, rfl⟩
  have h1 := (Fr.start w).new 119 #[.int .i64 0, .int .i64 0, .int .i64 0, .int .i64 0, .int .i64 0, .int .i64 0] (List.replicate 6 (.int .i64 0)) rfl 6 rfl (by omega)
  have h2 := h1.new 119 #[.int .i64 0, .int .i64 0, .int .i64 0, .int .i64 0, .int .i64 0, .int .i64 0] (List.replicate 6 (.int .i64 0)) rfl 6 rfl (by omega)
  have e1 : (w.alloc (.cells #[.int .i64 0, .int .i64 0, .int .i64 0, .int .i64 0, .int .i64 0, .int .i64 0] 119)).heap.size = N + 1 := by simp [hN]
  rw [hN, e1] at h2
  have HF1 := Lib.hid h2
  have HS1 := Lib.hid (h2.old h)
  clear h h1 h2 e1 hdr hp hn
  go_enter Try.func83, Try.ntmps83
  go_upto_region 3 with (with_reducible refine at_slot 6 ?_; go_must (refine wpList_copyArr (w0 := w) rfl (.tmp 4) (.tmp 5) 32 32 119 3 Try.underlying32 intSize rfl _ _ 6 6 n cap _ (ints q) [_] rfl rfl HF1.out HS1.out HN.out (by omega) (ints_one _) ?_); intro w2 hF2 hsz2; rw [HDr.out] at hF2; have HF2 := Lib.hid hF2; clear hF2 hsz2)
  have hR : w2.rangeAt (N + 1) 0 (ints [x0, x1, x2, x3, x4, x5]) := fun j v hv => by
    have hj : j < (ints [x0, x1, x2, x3, x4, x5]).length := (List.getElem?_eq_some_iff.1 hv).1
    obtain ⟨g, e, -, -, t1, -⟩ := HF2.out.open (by simp [ints])
    cases e
    rw [Nat.zero_add, t1 j hj]; exact hv
  have hT : w2.there N 0 6 := fun j hj => by
    obtain ⟨g, e, -, -, t1, t2⟩ := HF2.out.swap.open (by simp)
    cases e
    rw [Nat.zero_add, t1 j (by simpa using hj)]
    exact ⟨by simp [hj], t2 j⟩
  have h7 := (((((HF2.out.swap.set 0 (.int .i64 x0)).set 1 (.int .i64 x1)).set 2 (.int .i64 x2)).set 3 (.int .i64 x3)).set 4 (.int .i64 x4)).set 5 (.int .i64 x5)
  have HF7 := Lib.hid h7
  obtain ⟨g, e, -, -, t1, -⟩ := h7.open (by simp)
  cases e
  have e0 := t1 0 (by simp)
  have e1 := t1 1 (by simp)
  have e2 := t1 2 (by simp)
  have e3 := t1 3 (by simp)
  have e4 := t1 4 (by simp)
  have e5 := t1 5 (by simp)
  simp only [List.replicate_succ, List.set_cons_zero, List.set_cons_succ, List.getElem?_cons_zero, List.getElem?_cons_succ] at e0 e1 e2 e3 e4 e5
  clear t1 h7
  refine wp_region_list ?_
  refine wpList_load_mid rfl 119 (.tmp 3) rfl (N + 1) 0 rfl (ints [x0, x1, x2, x3, x4, x5]) (.array 6 3) hR Try.underlying119 rfl (by kernel_rfl) ?_
  refine wpList_store_mid rfl 119 (.tmp 2) (.tmp 7) rfl N 0 _ rfl rfl hT (by kernel_rfl) (all_oneCell_toArray (ints_one _)) ?_
  rw [show w2.setCells N 0 (ints [x0, x1, x2, x3, x4, x5]).toArray.toList = (((((w2.setCell ⟨N, 0, none⟩ (.int .i64 x0)).setCell ⟨N, 1, none⟩ (.int .i64 x1)).setCell ⟨N, 2, none⟩ (.int .i64 x2)).setCell ⟨N, 3, none⟩ (.int .i64 x3)).setCell ⟨N, 4, none⟩ (.int .i64 x4)).setCell ⟨N, 5, none⟩ (.int .i64 x5) from rfl]
  clear hR hT
  go_wp2_with fail
  (try simp only [Exit.inBlock, Exit.then])
  refine bodyPost_ret (v := .agg #[.int .i64 x0, .int .i64 x1, .int .i64 x2, .int .i64 x3, .int .i64 x4, .int .i64 x5]) ?_ ?_ ?_
  · simp [results, Try.results83, go_sem, e0, e1, e2, e3, e4, e5]
  · rfl
  · exact ⟨rfl, HF7.out.below⟩
end Go.Proofs.Ytooghdnlaonkaaa
/- The map of what has been seen, keyed by orders. -/
namespace Go.Proofs.Ytooghdnlaonkaaa
open Go.RowKit Go.Maps

theorem arr6 : Go.WideMaps.ArrKey Try.prog 119 3 6 := ⟨Try.underlying119, by kernel_rfl, by kernel_rfl, by kernel_rfl⟩
theorem lawA : Keyed Try.prog 119 := Keyed.of_law arr6.law
theorem zeroI3 (w : World) : (zeroValue 3).run Try.prog w = .ok (.int .i64 0) w := by kernel_rfl
def dK (c : Int) : DataW Unit := .lit (.int .i64 c)
/-- numbers of an order -/
def Sml (q : List Int) : Prop := q.length ≤ 6 ∧ ∀ x ∈ q, 0 ≤ x ∧ x ≤ 6
theorem wf6 {x : Int} (h : 0 ≤ x ∧ x ≤ 6) : (Lit.int .i64 x).wf = true := by
  simp [Lit.wf, go_sem]
  have e1 : IntKind.i64.min = -9223372036854775808 := by decide
  have e2 : IntKind.i64.max = 9223372036854775807 := by decide
  omega
def keyV (q : List Int) : Value := .agg (ints (pad6 q)).toArray
def kyA (q : List Int) : Lit := .string (keyBytes ((pad6 q).map (Lit.int .i64)))
theorem kyA_of {q : List Int} (h : Sml q) : keyOf Try.prog 119 (keyV q) = some (kyA q) := by
  obtain ⟨h1, h2⟩ := h
  have hm : ∀ x ∈ pad6 q, 0 ≤ x ∧ x ≤ 6 := fun x hx => by
    unfold pad6 at hx
    rcases List.mem_append.1 hx with hx | hx
    · exact h2 x hx
    · have := List.eq_of_mem_replicate hx; omega
  obtain ⟨a, b, c, d, e, f, hp⟩ := pad6_six h1
  unfold keyV kyA
  rw [hp] at hm ⊢
  have wa := wf6 (hm a (by simp))
  have wb := wf6 (hm b (by simp))
  have wc := wf6 (hm c (by simp))
  have wd := wf6 (hm d (by simp))
  have we := wf6 (hm e (by simp))
  have wf := wf6 (hm f (by simp))
  have A := arr6
  have hsz : ∃ m, Try.prog.types.size = m + 1 := ⟨Try.prog.types.size - 1, by
    have : 0 < Try.prog.types.size := of_decide_eq_true (by kernel_rfl)
    omega⟩
  have hkt := A.keyType hsz
  have he : Try.prog.underlying 3 = some (.int .i64) := Try.underlying3
  obtain ⟨m, hm⟩ := hsz
  simp only [ints, List.map_cons, List.map_nil]
  unfold keyOf
  simp only [A.hu]
  rw [if_pos (by simp [hkt, Value.formed, A.hu, A.size]), hm]
  unfold Program.keyLits
  simp only [A.hu, Value.cells]
  rw [if_pos (by rw [A.size]; rfl), show List.range 6 = [0, 1, 2, 3, 4, 5] from rfl]
  simp [A.one, Program.keyLits, he, wa, wb, wc, wd, we, wf]
theorem kyA_inj {n : Nat} {q r : List Int} (hq : Sml q) (hr : Sml r) (lq : q.length = n) (lr : r.length = n) (h : kyA q = kyA r) : q = r := by
  have h1 := kyA_of hq
  have h2 := kyA_of hr
  rw [← h] at h2
  have h3 := lawA.inj h1 h2
  unfold keyV at h3
  have h4 : ints (pad6 q) = ints (pad6 r) := by
    have := congrArg (fun v => match v with | .agg c => c.toList | _ => []) h3
    simpa using this
  have h5 : pad6 q = pad6 r := by
    unfold ints at h4
    exact List.map_inj_right (fun a b e => by simpa using e) |>.1 h4
  unfold pad6 at h5
  exact (List.append_inj h5 (by rw [lq, lr])).1
/-- a map of the call's own: what is in it has 1, all else 0 -/
structure OwnK (n B m : Nat) (D : DataW Unit) (L : List (List Int)) (w : World) : Prop where
  map : IsMap D
  at_ : ∀ q, q.length = n → Sml q → D.atKey (kyA q) (dK 0) = dK (if q ∈ L then 1 else 0)
  own : w.ownsMap Try.prog 119 (plainElem (H := Unit) Try.prog 3) B m D
namespace OwnK
variable {n B m : Nat} {D : DataW Unit} {L : List (List Int)} {w w' : World}
theorem look (h : OwnK n B m D L w) {q : List Int} (hl : q.length = n) (hs : Sml q) :
    (Instr.lookup 121 (.map (some B)) (.agg (ints (pad6 q)).toArray) false).run Try.prog w = .ok (.int .i64 (if q ∈ L then 1 else 0)) w := by
  obtain ⟨c, hrun, hat, -⟩ := World.ownsMap.lookup_int h.own lawA Try.underlying121 Try.underlying3 (zeroI3 w) (kyA_of hs)
  have h2 := h.at_ q hl hs
  rw [show (dK 0 : DataW Unit) = .lit (.int .i64 0) from rfl, hat] at h2
  unfold dK at h2
  simp only [DataW.lit.injEq, Lit.int.injEq, true_and] at h2
  rw [h2] at hrun
  exact hrun
theorem keep (h : OwnK n B m D L w) (e : w'.heap[B]? = w.heap[B]?) : OwnK n B m D L w' := by
  obtain ⟨h1, h2, es, clock, hb, rest⟩ := h
  exact ⟨h1, h2, es, clock, e.trans hb, rest⟩
theorem put (h : OwnK n B m D L w) {x : List Int} (hl : x.length = n) (hs : Sml x) (h' : w'.ownsMap Try.prog 119 (plainElem (H := Unit) Try.prog 3) B (m + 1) (D.put (kyA x) (dK 1))) : OwnK n B (m + 1) (D.put (kyA x) (dK 1)) (L ++ [x]) w' := by
  refine ⟨h.map.put _ _, fun s hsl hss => ?_, h'⟩
  by_cases e : s = x
  · rw [e, atKey_put_same h.map (show WideAt.IsKeyLit (kyA x) from trivial) _ _, if_pos (by simp)]
  · rw [atKey_put_other (fun h => e (kyA_inj hss hs hsl hl h)), h.at_ s hsl hss]
    by_cases hm : s ∈ L
    · rw [if_pos hm, if_pos (List.mem_append_left _ hm)]
    · rw [if_neg hm, if_neg (by simp [hm, e])]
theorem mono {m' : Nat} (h : OwnK n B m D L w) (hn : m ≤ m') : OwnK n B m' D L w := ⟨h.map, h.at_, h.own.mono hn⟩
theorem block (h : OwnK n B m D L w) : ∃ es clock, w.heap[B]? = some (.map es clock) := by
  obtain ⟨_, _, es, clock, hb, _⟩ := h
  exact ⟨es, clock, hb⟩
theorem start (w : World) : OwnK n w.heap.size 0 (.map []) [] (w.alloc (.map #[] 0)) :=
  ⟨isMap_empty, fun s _ _ => by rw [if_neg (by simp)]; exact WideAt.atKey_none _ (fun p hp => by cases hp), World.ownsMap_made w Try.prog 119 _⟩
end OwnK
end Go.Proofs.Ytooghdnlaonkaaa
/- The least of a row's turns; how many cycles: in plain words. -/
namespace Go.Proofs.Ytooghdnlaonkaaa
open Go.RowKit

/-- a row turned by an order -/
def actL (p r : List Int) : List Int := tmL r (invL p)
theorem actL_len {n : Nat} {p : List Int} (hp : Pn n p) (r : List Int) : (actL p r).length = n := by unfold actL; rw [tmL_len, invL_len, hp.1]
theorem actL_at {n : Nat} {p : List Int} (hp : Pn n p) (r : List Int) (i : Nat) (hi : i < n) : nth (actL p r) (nth p i).toNat = nth r i := by
  have h1 := hp.2.at i (by rw [hp.1]; exact hi)
  unfold actL
  rw [tmL_nth _ _ _ (by rw [invL_len]; exact h1.1), invL_at hp.2 i (by rw [hp.1]; exact hi), Int.toNat_natCast]
theorem invL_one (n : Nat) : invL (oneP n) = oneP n := (inv_of (Pn.one n) (Pn.one n) (one_tm (Pn.one n))).symm
theorem actL_one {n : Nat} {r : List Int} (hr : r.length = n) : actL (oneP n) r = r := by unfold actL; rw [invL_one, tm_one hr]
theorem actL_mul {n : Nat} {p q : List Int} (hp : Pn n p) (hq : Pn n q) (r : List Int) : actL (tmL p q) r = actL p (actL q r) := by
  unfold actL
  rw [inv_tm hp.2 hq.2 n hp.1 hq.1, tm_asc r hq.inv.1 hp.inv]
theorem actL_inv {n : Nat} {p : List Int} (hp : Pn n p) {r : List Int} (hr : r.length = n) : actL (invL p) (actL p r) = r := by
  rw [← actL_mul hp.inv hp, inv_tm_one hp, actL_one hr]
theorem actL_inj {n : Nat} {p : List Int} (hp : Pn n p) {r s : List Int} (hr : r.length = n) (hs : s.length = n) (h : actL p r = actL p s) : r = s := by
  have := congrArg (actL (invL p)) h
  rwa [actL_inv hp hr, actL_inv hp hs] at this
theorem actL_perm {n : Nat} {p : List Int} (hp : Pn n p) {r : List Int} (hr : r.length = n) : (actL p r).Perm r := by
  have h1 := isP_perm hp.inv.2
  rw [hp.inv.1] at h1
  have h2 := h1.map (nth r)
  have e1 : (List.range n).map (nth r) = r := ext_nth (by simp [hr]) fun i hi => by
    simp at hi
    simp [nth, hi]
  have e2 : ((List.range n).map (pf (invL p))).map (nth r) = actL p r := by
    rw [List.map_map]
    refine ext_nth (by simp [actL_len hp]) fun i hi => ?_
    simp at hi
    unfold actL
    rw [tmL_nth _ _ _ (by rw [hp.inv.1]; exact hi)]
    simp [nth, hi, pf]
  rw [e1, e2] at h2
  exact h2
/-- turned so far: the first k -/
def turnK (p r : List Int) (n : Nat) : Nat → List Int
  | 0 => List.replicate n 0
  | k + 1 => (turnK p r n k).set (nth p k).toNat (nth r k)
theorem turnK_len (p r : List Int) (n : Nat) : ∀ k, (turnK p r n k).length = n
  | 0 => by simp [turnK]
  | k + 1 => by rw [turnK, List.length_set, turnK_len p r n k]
theorem turnK_at {n : Nat} {p : List Int} (hp : Pn n p) (r : List Int) : ∀ k, k ≤ n → ∀ i, i < k → nth (turnK p r n k) (nth p i).toNat = nth r i
  | 0, _, i, hi => by omega
  | k + 1, hk, i, hi => by
    have hl := hp.1
    rw [turnK, nth_set _ _ _ _ (by rw [turnK_len]; have := (hp.2.at k (by omega)).1; omega)]
    by_cases e : i = k
    · subst e; rw [if_pos rfl]
    · rw [if_neg (fun e2 => e (hp.2.inj i k (by omega) (by omega) (by have := (hp.2.at i (by omega)).2; have := (hp.2.at k (by omega)).2; omega)))]
      exact turnK_at hp r k (by omega) i (by omega)
theorem turnK_all {n : Nat} {p : List Int} (hp : Pn n p) (r : List Int) : turnK p r n n = actL p r :=
  ext_nth (by rw [turnK_len, actL_len hp]) fun v hv => by
    rw [turnK_len] at hv
    obtain ⟨i, hi, rfl⟩ := isP_get hp.2 v (by rw [hp.1]; exact hv)
    rw [hp.1] at hi
    rw [turnK_at hp r n (Nat.le_refl _) i hi, actL_at hp r i hi]
/-- the least of the turns by the first j -/
def leastK (G : List (List Int)) (r : List Int) : Nat → List Int
  | 0 => r
  | j + 1 => if lexC (actL (G.getD j []) r) (leastK G r j) < 0 then actL (G.getD j []) r else leastK G r j
def leastL (G : List (List Int)) (r : List Int) : List Int := leastK G r G.length
section
variable {n : Nat} {ls G : List (List Int)} (H : IsGrp n ls G) {r : List Int} (hr : r.length = n)
include H hr
theorem leastK_in : ∀ j, j ≤ G.length → (∃ t ∈ G, leastK G r j = actL t r) ∧ ∀ i (hi : i < G.length), i < j → lexC (leastK G r j) (actL G[i] r) ≤ 0
  | 0, _ => ⟨⟨_, H.one, (actL_one hr).symm⟩, fun i _ h => by omega⟩
  | j + 1, hj => by
    obtain ⟨⟨t, ht, e1⟩, h2⟩ := leastK_in j (by omega)
    have hlj : (leastK G r j).length = n := by rw [e1, actL_len (H.pn ht)]
    have hg : G.getD j [] = G[j]'(by omega) := by simp [show j < G.length by omega]
    have hGj : G[j]'(by omega) ∈ G := List.getElem_mem _
    rw [leastK, hg]
    have hla := actL_len (H.pn hGj) r
    have hneg := lexC_neg (actL (G[j]'(by omega)) r) (leastK G r j)
    split
    · rename_i hlt
      refine ⟨⟨_, hGj, rfl⟩, fun i hi hij => ?_⟩
      by_cases e : i = j
      · subst e; rw [lexC_self]; omega
      · exact lexC_tr' (by rw [hla, hlj]) (by rw [hlj, actL_len (H.pn (List.getElem_mem hi))]) (by omega) (h2 i hi (by omega))
    · rename_i hlt
      refine ⟨⟨t, ht, e1⟩, fun i hi hij => ?_⟩
      by_cases e : i = j
      · subst e; omega
      · exact h2 i hi (by omega)
theorem least_in : ∃ t ∈ G, leastL G r = actL t r := (leastK_in H hr _ (Nat.le_refl _)).1
theorem least_len : (leastL G r).length = n := by
  obtain ⟨t, ht, e⟩ := least_in H hr
  rw [e, actL_len (H.pn ht)]
theorem least_le {g : List Int} (hg : g ∈ G) : lexC (leastL G r) (actL g r) ≤ 0 := by
  obtain ⟨i, hi, rfl⟩ := List.getElem_of_mem hg
  exact (leastK_in H hr _ (Nat.le_refl _)).2 i hi hi
/-- the least of all turns is the only one -/
theorem least_uniq {s : List Int} (h1 : ∃ t ∈ G, s = actL t r) (h2 : ∀ g ∈ G, lexC s (actL g r) ≤ 0) : s = leastL G r := by
  obtain ⟨t, ht, e⟩ := h1
  obtain ⟨u, hu, e2⟩ := least_in H hr
  have l1 : s.length = n := by rw [e, actL_len (H.pn ht)]
  have a := h2 u hu
  have b := least_le H hr ht
  rw [← e2] at a
  rw [← e] at b
  have c := lexC_neg s (leastL G r)
  exact lexC_zero _ _ (by rw [l1, least_len H hr]) (by omega)
theorem least_turn {g : List Int} (hg : g ∈ G) : leastL G (actL g r) = leastL G r := by
  have hl := actL_len (H.pn hg) r
  refine least_uniq H hr ?_ fun u hu => ?_
  · obtain ⟨t, ht, e⟩ := least_in H hl
    exact ⟨tmL t g, H.mul ht hg, by rw [e, actL_mul (H.pn ht) (H.pn hg)]⟩
  · have := least_le H hl (H.mul hu (H.inv hg))
    rwa [actL_mul (H.pn hu) (H.pn (H.inv hg)), actL_inv (H.pn hg) hr] at this
theorem least_self : leastL G (leastL G r) = leastL G r := by
  obtain ⟨t, ht, e⟩ := least_in H hr
  rw [e, least_turn H hr ht, e]
theorem least_perm : (leastL G r).Perm r := by
  obtain ⟨t, ht, e⟩ := least_in H hr
  rw [e]; exact actL_perm (H.pn ht) hr
end
/-- how many cycles -/
def cycN (p : List Int) : Nat := sumN (fun v => 2520 / ol p v) p.length / 2520
theorem cyc_len {p : List Int} {out : List Nat} (h : CycOk p out) (h10 : p.length ≤ 10) : out.length = cycN p := by
  have hs := h.sum (fun x => 2520 / x)
  have e : (out.map fun x => x * (2520 / x)).sum = 2520 * out.length := by
    have hp := h.pos
    clear h hs
    induction out with
    | nil => rfl
    | cons x l ih =>
      have hx := hp x List.mem_cons_self
      rw [List.map_cons, List.sum_cons, ih fun y hy => hp y (List.mem_cons_of_mem _ hy), List.length_cons]
      have : ∀ x, 1 ≤ x → x ≤ 10 → x * (2520 / x) = 2520 := by
        intro x h1 h2
        have : ∀ x, x < 11 → 1 ≤ x → x * (2520 / x) = 2520 := by decide
        exact this x (by omega) h1
      rw [this x hx.1 (by omega)]; omega
  unfold cycN
  rw [← hs, e]; omega
end Go.Proofs.Ytooghdnlaonkaaa
