/- orbits.key: an order as the key of a map. -/
import Derived.Test.YtdabgibmbmhmdaaOrbM
import Derived.Deep.MidRow
import Derived.Deep.DeepCutAuto
namespace Go.Proofs.Ytdabgibmbmhmdaa
open Go.RowKit

/-- copy into an array of the call's own, from its head on -/
theorem wpList_copyArr {ops : Array Oper} {rest : List Oper} {o : Oper} {a : Act} {Q : Exit → Act → World → Prop} {w0 w : World} (hgd : o.guard = none) (d s : Operand) (S S' T U : TypeId)
    (hS : Try.prog.underlying S = some (.slice U)) (hsz : (Try.prog.info? U).map (·.size) = some 1)
    (ho : o.op = .call { callee := .builtin .copy, args := #[d, s], argTypes := #[S, S'] })
    (ad sp : Option Addr) (n cap m scap : Nat) (xs ys : List Value) (L : List Ent) (hd : a.eval d = .slice ad n cap) (hs : a.eval s = .slice sp m scap) (hF : Fr w0 w (⟨T, .slice ad n cap, xs⟩ :: L))
    (hY : Sa w sp ys) (hm : ys.length = m) (hmn : m ≤ n) (h1 : ∀ v ∈ ys, v.oneCell' = true)
    (h : ∀ w', Fr w0 w' (⟨T, .slice ad n cap, ys ++ xs.drop m⟩ :: L) → w.heap.size ≤ w'.heap.size → wpList Try.prog ops Q rest (a.put o.dst (goInt m)) w') :
    wpList Try.prog ops Q (o :: rest) a w := by
  by_cases h0 : m = 0
  · subst h0
    obtain rfl := List.eq_nil_of_length_eq_zero hm
    refine wpList_copy_nothing hgd d s S S' ho U hS hsz ad sp n cap 0 scap hd hs (by simp) ?_
    exact h w hF (Nat.le_refl _)
  · obtain ⟨b, off, rfl, hb, hc⟩ := hY (by omega)
    have hO := hF.os.own _ List.mem_cons_self
    obtain ⟨hn, h2⟩ := hO.elim
    rcases h2 with ⟨_, _, rfl⟩ | ⟨g, cur, rfl, h2, h3, h4, h5, h6, h7⟩
    · simp at hn; omega
    · refine wpList_copy_own hgd d s S S' ho U hS hsz g 0 n cap ⟨b, off, none⟩ m scap hd hs cur T h3 ys (by rw [hm]; exact (Nat.min_eq_left hmn).symm) ?_ (by omega) h1 ?_
      · intro j v hj
        have hjl : j < ys.length := (List.getElem?_eq_some_iff.1 hj).1
        have := hc j hjl
        rw [show ((⟨b, off, none⟩ : Addr).add j) = ⟨b, off + j, none⟩ from by unfold Addr.add; split <;> simp_all, this, hj]
      · rw [hm]
        refine h _ (hF.setRow cur h3 _ ?_ _ ?_) (by simp)
        · simp; omega
        · simp only [List.take_zero, List.nil_append, Nat.zero_add]
          rw [← h7, List.take_append, hm, List.take_of_length_le (by omega), List.take_drop, show m + (n - m) = n from by omega]
theorem wpList_loadAr {ops : Array Oper} {rest : List Oper} {op : Oper} {a : Act} {w : World} {Q : Exit → Act → World → Prop} (ty : TypeId) (x : Operand) (ho : op.op = .load ty x) (hw : Region.wanted op (yielded ops a.tmps) = true)
    (p v : Value) (hx : a.eval x = p) (hl : Sem.run Try.prog (Instr.loadAt ty p) w = .ok v w) (h : wpList Try.prog ops Q rest (a.put op.dst v) w) : wpList Try.prog ops Q (op :: rest) a w :=
  wpList_step fun K hK => by
    simp only [hw, if_true]
    unfold Oper.wp execOp
    simp only [ho, hx, hl, Sem.run_bind, Result.andThen_ok]
    exact hK _ _ h
theorem Fr.loadAr {w0 w : World} {L : List Ent} {T ty : TypeId} {g n cap : Nat} {l : List Int} (h : Fr w0 w (⟨T, .slice (some ⟨g, 0, .none⟩) n cap, ints l⟩ :: L)) (d : TypeDesc) (hu : Try.prog.underlying ty = some d) (hd : d.isRow = true) (hi : (Try.prog.info? ty).map (·.size) = some l.length) :
    Sem.run Try.prog (Instr.loadAt ty (.pointer (some ⟨g, 0, .none⟩))) w = .ok (.agg (ints l).toArray) w :=
  run_loadAt_mid w g 0 ty (ints l) d (fun j v hv => by
    have hj : j < (ints l).length := (List.getElem?_eq_some_iff.1 hv).1
    obtain ⟨b, off, e, _, hc⟩ := (h.get 0 rfl).at j hj
    cases e
    rw [hc]; exact hv) hu hd (by rw [ints_len]; exact hi)
def pad6 (q : List Int) : List Int := q ++ List.replicate (6 - q.length) 0
theorem pad6_six {q : List Int} (h : q.length ≤ 6) : ∃ a b c d e f, pad6 q = [a, b, c, d, e, f] := by
  have hl : (pad6 q).length = 6 := by unfold pad6; rw [List.length_append, List.length_replicate]; omega
  match hp : pad6 q, hl with
  | [a, b, c, d, e, f], _ => exact ⟨a, b, c, d, e, f, rfl⟩
set_option maxRecDepth 100000 in
set_option maxHeartbeats 4000000 in
theorem orbKey (q : List Int) (n : Nat) (a : Option Addr) (cap : Nat) (w : World) (h : Sa w a (ints q)) (hn : q.length = n) (h6 : n ≤ 6) :
    Calls Try.prog 92 #[.slice a n cap] w fun e w' => e = .returned (.agg (ints (pad6 q)).toArray) ∧ Fr w w' [] := by
  have HS := Lib.hid h
  have HN : Hid ((ints q).length = n) := Lib.hid (by rw [ints_len, hn])
  obtain ⟨x0, x1, x2, x3, x4, x5, hp⟩ := pad6_six (q := q) (by omega)
  have hdr : ints q ++ (List.replicate 6 (Value.int .i64 0)).drop n = ints (pad6 q) := by
    unfold pad6
    rw [← hn, List.drop_replicate, ints_rep, ints, ints, ints, ← List.map_append]
  rw [hp] at hdr ⊢
  have HDr := Lib.hid hdr
  obtain ⟨N, hN⟩ : ∃ N, w.heap.size = N := ⟨_, rfl⟩
  have h1 := (Fr.start w).new 91 #[.int .i64 0, .int .i64 0, .int .i64 0, .int .i64 0, .int .i64 0, .int .i64 0] (List.replicate 6 (.int .i64 0)) rfl 6 rfl (by omega)
  have h2 := h1.new 91 #[.int .i64 0, .int .i64 0, .int .i64 0, .int .i64 0, .int .i64 0, .int .i64 0] (List.replicate 6 (.int .i64 0)) rfl 6 rfl (by omega)
  have e1 : (w.alloc (.cells #[.int .i64 0, .int .i64 0, .int .i64 0, .int .i64 0, .int .i64 0, .int .i64 0] 91)).heap.size = N + 1 := by simp [hN]
  rw [hN, e1] at h2
  have HF1 := Lib.hid h2
  have HS1 := Lib.hid (h2.old h)
  clear h h1 h2 e1 hdr hp hn
  go_enter Try.func92, Try.ntmps92
  go_upto_region 3 with (with_reducible refine at_slot 6 ?_; go_must (refine wpList_copyArr (w0 := w) rfl (.tmp 4) (.tmp 5) 22 22 91 3 Try.underlying22 intSize rfl _ _ 6 6 n cap _ (ints q) [_] rfl rfl HF1.out HS1.out HN.out (by omega) (ints_one _) ?_); intro w2 hF2 hsz2; rw [HDr.out] at hF2; have HF2 := Lib.hid hF2; clear hF2 hsz2)
  have hR : w2.rangeAt (N + 1) 0 (ints [x0, x1, x2, x3, x4, x5]) := fun j v hv => by
    have hj : j < (ints [x0, x1, x2, x3, x4, x5]).length := (List.getElem?_eq_some_iff.1 hv).1
    obtain ⟨g, e, -, -, t1, -⟩ := HF2.out.open (by simp [ints])
    cases e
    rw [Nat.zero_add, t1 j hj]; exact hv
  have hT : w2.there N 0 6 := fun j hj => by
    obtain ⟨g, e, -, -, t1, t2⟩ := HF2.out.swap.open (by simp)
    cases e
    rw [Nat.zero_add, t1 j (by simpa using hj)]
    exact ⟨by simp [hj], t2 j⟩
  have h7 := (((((HF2.out.swap.set 0 (.int .i64 x0)).set 1 (.int .i64 x1)).set 2 (.int .i64 x2)).set 3 (.int .i64 x3)).set 4 (.int .i64 x4)).set 5 (.int .i64 x5)
  have HF7 := Lib.hid h7
  obtain ⟨g, e, -, -, t1, -⟩ := h7.open (by simp)
  cases e
  have e0 := t1 0 (by simp)
  have e1 := t1 1 (by simp)
  have e2 := t1 2 (by simp)
  have e3 := t1 3 (by simp)
  have e4 := t1 4 (by simp)
  have e5 := t1 5 (by simp)
  simp only [List.replicate_succ, List.set_cons_zero, List.set_cons_succ, List.getElem?_cons_zero, List.getElem?_cons_succ] at e0 e1 e2 e3 e4 e5
  clear t1 h7
  refine wp_region_list ?_
  refine wpList_load_mid rfl 91 (.tmp 3) rfl (N + 1) 0 rfl (ints [x0, x1, x2, x3, x4, x5]) (.array 6 3) hR Try.underlying91 rfl (by kernel_rfl) ?_
  refine wpList_store_mid rfl 91 (.tmp 2) (.tmp 7) rfl N 0 _ rfl rfl hT (by kernel_rfl) (all_oneCell_toArray (ints_one _)) ?_
  rw [show w2.setCells N 0 (ints [x0, x1, x2, x3, x4, x5]).toArray.toList = (((((w2.setCell ⟨N, 0, none⟩ (.int .i64 x0)).setCell ⟨N, 1, none⟩ (.int .i64 x1)).setCell ⟨N, 2, none⟩ (.int .i64 x2)).setCell ⟨N, 3, none⟩ (.int .i64 x3)).setCell ⟨N, 4, none⟩ (.int .i64 x4)).setCell ⟨N, 5, none⟩ (.int .i64 x5) from rfl]
  clear hR hT
  go_wp2_with fail
  (try simp only [Exit.inBlock, Exit.then])
  refine bodyPost_ret (v := .agg #[.int .i64 x0, .int .i64 x1, .int .i64 x2, .int .i64 x3, .int .i64 x4, .int .i64 x5]) ?_ ?_ ?_
  · simp [results, Try.results92, go_sem, e0, e1, e2, e3, e4, e5]
  · rfl
  · exact ⟨rfl, HF7.out.below⟩
end Go.Proofs.Ytdabgibmbmhmdaa
