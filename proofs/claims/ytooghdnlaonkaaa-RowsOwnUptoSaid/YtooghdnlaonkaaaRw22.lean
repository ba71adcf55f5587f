/- Several of my texts in one: Big, OrbCA. -/
import Derived.Test.YtooghdnlaonkaaaRw13
import Derived.Test.YtooghdnlaonkaaaRw20
import Derived.Test.YtooghdnlaonkaaaRw15
import Derived.Test.YtooghdnlaonkaaaRw12
/- Copies of slices of any size within the form's reach. -/
namespace Go.Proofs.Ytooghdnlaonkaaa
open Go.RowKit

theorem wpList_pushAllG {ops : Array Oper} {rest : List Oper} {o : Oper} {a : Act} {Q : Exit → Act → World → Prop} {w0 w : World} (hgd : o.guard = .none) (s x : Operand) (S T : TypeId) (z : Value) (bytes : Nat)
    (hS : Try.prog.underlying S = some (.slice T)) (hT : (Try.prog.info? T).map (fun i => (i.zero, i.size, i.bytes)) = some (some z, 1, bytes)) (hz : z.cells.size = 1) (_hby : bytes ≤ 1000)
    (ho : o.op = .call { callee := .builtin .append, args := #[s, x], argTypes := #[S, S] })
    (ad sp : Option Addr) (n cap m c : Nat) (xs ys : List Value) (L : List Ent) (hs : a.eval s = .slice ad n cap) (hF : Fr w0 w (⟨T, .slice ad n cap, xs⟩ :: L))
    (hx : a.eval x = .slice sp m c) (hY : Sa w sp ys) (hm : ys.length = m) (hnone : sp = .none → c = 0 ∧ m = 0) (h1 : ∀ u ∈ ys, u.oneCell' = true) (hb1 : 1 ≤ bytes) (hlen : (n + m) * bytes ≤ 140737488355328)
    (h : ∀ ad' cap' w', Fr w0 w' (⟨T, .slice ad' (n + m) cap', xs ++ ys⟩ :: L) → w.heap.size ≤ w'.heap.size → wpList Try.prog ops Q rest (a.put o.dst (.slice ad' (n + m) cap')) w') :
    wpList Try.prog ops Q (o :: rest) a w := by
  obtain ⟨i0, hi, hz0, hz1, hz2⟩ := info_parts hT
  have hn := hF.len
  have hO := hF.os.own _ List.mem_cons_self
  cases sp with
  | none =>
    obtain ⟨rfl, rfl⟩ := hnone rfl
    obtain rfl := List.eq_nil_of_length_eq_zero hm
    subst hn
    refine wpList_append_own_none hgd s x S ho w0.heap.size T i0 1 hS hi (.slice ad xs.length cap) xs.length xs hs (by rw [← hz1]; exact hz1 ▸ hO) hx ?_
    exact h ad cap w (by simpa using hF) (Nat.le_refl _)
  | some sad =>
    subst hn
    refine wpList_append_own_at _ hgd s x S ho w0.heap.size T i0 z 1 bytes hS hi hz0 hz1 hz2 hz (by decide) (.slice ad xs.length cap) xs.length xs hs hO
      sad m c ys hx (by omega) ?_ h1 ?_ ?_ ?_ ?_
    · intro j u hj
      have hjl : j < ys.length := (List.getElem?_eq_some_iff.1 hj).1
      obtain ⟨b, off, e, _, hc⟩ := hY.at j hjl
      cases e
      rw [show ((⟨b, off, .none⟩ : Addr).add j) = ⟨b, off + j, .none⟩ from by unfold Addr.add; split <;> simp_all, hc, hj]
    · have := Nat.le_mul_of_pos_right (xs.length + m) hb1
      unfold maxLen; omega
    · exact hlen
    · exact hF.bel.size
    · intro v' w' k1 k2 hnil hat
      have hsz := k2.size
      have hb0 := hF.bel.size
      have e1 : (xs ++ ys).length = xs.length + m := by rw [List.length_append, hm]
      obtain ⟨ad', cap', rfl⟩ : ∃ ad' cap', v' = .slice ad' (xs.length + m) cap' := by
        rcases k1.2 with ⟨e1, e2⟩ | ⟨g, cap', cur, e1, _⟩
        · exact ⟨.none, 0, by rw [e2, e1]⟩
        · exact ⟨_, _, e1⟩
      refine h ad' cap' w' ⟨?_, ⟨fun e he => ?_, ?_⟩⟩ (by omega)
      · refine Below.grown (row := (Value.slice ad xs.length cap).ownBlock) hF.bel k2 (by omega) ?_
        intro k hk
        exact (Ent.own.lt hO k hk).1
      · rcases List.mem_cons.1 he with rfl | he
        · unfold Ent.own; simp only [e1]; exact k1
        · refine World.ownsRow.kept (hF.os.own e (List.mem_cons_of_mem _ he)) k2 ?_
          exact ((List.pairwise_cons.1 hF.os.far).1 e he).symm
      · have hf := List.pairwise_cons.1 hF.os.far
        refine List.pairwise_cons.2 ⟨fun b hb => ?_, hf.2⟩
        have hbf := hf.1 b hb
        have hlt := Ent.own.lt (hF.os.own b (List.mem_cons_of_mem _ hb))
        rcases hat with hat | hat
        · rcases hbf with hbf | hbf
          · exact .inl (show (Value.slice ad' (xs.length + m) cap').ownBlock = .none by rw [hat]; exact hbf)
          · exact .inr (show (Value.slice ad' (xs.length + m) cap').ownBlock ≠ _ by rw [hat]; exact hbf)
        · refine .inr (show (Value.slice ad' (xs.length + m) cap').ownBlock ≠ _ from ?_)
          rw [hat]
          intro e
          have := (hlt _ e.symm).2
          omega

set_option maxRecDepth 100000 in
set_option maxHeartbeats 1000000 in
theorem slCloneG (l : List Int) (n : Nat) (a : Option Addr) (cap : Nat) (w : World) (h : Sa w a (ints l)) (hn : l.length = n) (hl : n * 8 ≤ 140737488355328) :
    Calls Try.prog 24 #[.slice a n cap] w (OneV l n w) := by
  cases a with
  | none =>
    have h0 : n = 0 := by
      rcases Nat.eq_zero_or_pos n with h1 | h1
      · exact h1
      · obtain ⟨b, off, e, _⟩ := h (by rw [ints_len]; omega)
        cases e
    subst h0
    have hl0 := List.eq_nil_of_length_eq_zero hn
    subst hl0
    clear hn h
    have heq : ∀ w, Sem.run Try.prog (binOp .eql 32 (.slice none 0 cap) (.slice none 0 0)) w = .ok (.bool true) w := fun w => Lib.run_eql_slice_nil w 32 3 none 0 cap 0 0 Try.underlying32
    go_enter Try.func24, Try.ntmps24
    go_wp2_with fail
    go_ret
    exact ⟨_, _, rfl, by omega, (Fr.start w).nilSlice _⟩
  | some ad =>
    have HN := Lib.hid (show (ints l).length = n from by rw [ints_len, hn])
    have HS := Lib.hid (h.alloc (.cells #[] 3))
    have HF := Lib.hid ((Fr.start w).lit [] #[] rfl 0 rfl (by omega) 3)
    clear hn h
    have heq : ∀ w, Sem.run Try.prog (binOp .eql 32 (.slice (some ad) n cap) (.slice none 0 0)) w = .ok (.bool false) w := fun w => Lib.run_eql_slice_nil w 32 3 (some ad) n cap 0 0 Try.underlying32
    go_enter Try.func24, Try.ntmps24
    go_wp2_with (with_reducible refine at_slot 7 ?_; go_must (refine wpList_pushAllG rfl (.tmp 5) (.tmp 6) 32 3 (.int .i64 0) 8 Try.underlying32 intInfo rfl (by omega) rfl _ (some ad) 0 0 n cap (ints []) (ints l) [] rfl HF.out rfl HS.out HN.out (fun e => by cases e) (ints_one l) (by omega) (by omega) ?_); intro ad2 cp2 w2 hf2 hsz2)
    go_ret
    rw [Nat.zero_add] at hf2
    exact ⟨ad2, cp2, rfl, hf2.cap, hf2⟩

end Go.Proofs.Ytooghdnlaonkaaa
/- orbits.Check, Group and Least at any input: where they refuse. -/
namespace Go.Proofs.Ytooghdnlaonkaaa
open Go.RowKit

/-- what Check asks -/
def OrbIn (n : Int) (m : Nat) (R : List Rw) : Prop := 0 ≤ n ∧ n ≤ 6 ∧ m ≤ 6 ∧ AllPn n.toNat (lsR R)
set_option maxRecDepth 100000 in
set_option maxHeartbeats 4000000 in
theorem orbChkA (n : Int) (R : List Rw) (m : Nat) (a : Option Addr) (cap : Nat) (w : World) (h : Rm w a R) (hm : R.length = m) (hl : m ≤ maxLen) (hr : ∀ p ∈ R, p.2.2.length ≤ maxLen) :
    Calls Try.prog 82 #[.int .i64 n, .slice a m cap] w fun e w' => ∃ er : Int, e = .returned (.int .i64 er) ∧ (er = 0 → OrbIn n m R) ∧ Fr w w' [] := by
  have HR := Lib.hid h; have HM := Lib.hid hm; have HL := Lib.hid hr
  unfold maxLen at hl
  clear h hm hr
  have HF0 := Lib.hid (Fr.start w)
  by_cases n0 : n < 0
  · have g1 : decide (n < 0) = true := decide_eq_true n0
    go_enter Try.func82, Try.ntmps82
    go_wp2_with fail
    go_ret
    exact ⟨1, rfl, fun h => by omega, HF0.out⟩
  have g1 : decide (n < 0) = false := decide_eq_false n0
  by_cases n6 : 6 < n
  · have g2 : decide (6 < n) = true := decide_eq_true n6
    go_enter Try.func82, Try.ntmps82
    go_wp2_with fail
    go_ret
    exact ⟨1, rfl, fun h => by omega, HF0.out⟩
  have g2 : decide (6 < n) = false := decide_eq_false n6
  by_cases m6 : 6 < m
  · have g3 : decide ((6 : Int) < (m : Int)) = true := decide_eq_true (by omega)
    go_enter Try.func82, Try.ntmps82
    go_wp2_with fail
    go_ret
    exact ⟨2, rfl, fun h => by omega, HF0.out⟩
  have g3 : decide ((6 : Int) < (m : Int)) = false := decide_eq_false (by omega)
  have HB := Lib.hid (show 0 ≤ n ∧ n ≤ 6 ∧ m ≤ 6 by omega)
  go_enter Try.func82, Try.ntmps82
  go_wp2_with fail
  clear g1 g2 g3 HF0 n0 n6
  go_loopw [18] (fun i wr => ∃ k : Nat, k ≤ m ∧ i = .int .i64 k ∧ Hid (∀ j (hj : j < R.length), j < k → Pn n.toNat R[j].2.2) ∧ Hid (Fr w wr [])) (fun i _ => m - (intOf i).toNat)
  case atStart => exact ⟨0, by omega, rfl, Lib.hid (fun j _ hj => by omega), Lib.hid (Fr.start w)⟩
  case round =>
    obtain ⟨k, hk, rfl, HK, HF⟩ := hrel
    by_cases hlt : k < m
    · have hkR : k < R.length := by rw [HM.out]; exact hlt
      obtain ⟨b1, o1, rfl, hb1, c1, s1⟩ := (HR.out.keep HF.out.bel).at k hkR
      have hln := HL.out R[k] (List.getElem_mem hkR)
      have HK2 : Hid (Pn n.toNat R[k].2.2 → ∀ j (hj : j < R.length), j < k + 1 → Pn n.toNat R[j].2.2) := Lib.hid fun hp j hj h => by
        rcases Nat.lt_succ_iff_lt_or_eq.1 h with h | rfl
        · exact HK.out j hj h
        · exact hp
      obtain ⟨⟨p1, q1, l⟩, hp⟩ : ∃ p : Rw, R[k] = p := ⟨_, rfl⟩
      rw [hp] at c1 s1 hln HK2
      simp only [rv] at c1
      simp only at s1 hln HK2
      obtain ⟨t, ht⟩ : ∃ t, l.length = t := ⟨_, rfl⟩
      rw [ht] at c1 hln
      have HC := Lib.hid (permChkA l t p1 q1 wr s1 ht hln)
      have HT := Lib.hid ht
      have d1 : (0 : Int) ≤ (k : Int) := by omega
      have d2 : (k : Int) < (m : Int) := by omega
      clear hp s1 hln ht
      obtain ⟨er, her⟩ : ∃ er, chkP l = er := ⟨_, rfl⟩
      rw [her] at HC
      have HE := Lib.hid her
      clear her
      go_wp2_with fail
      refine HC.out.mono ?_; rintro e w2 ⟨rfl, hf2⟩
      have HF2 := Lib.hid (HF.out.keep hf2.bel)
      clear hf2 HC
      by_cases he : er = 0
      · subst he
        by_cases htn : (t : Int) = n
        · have g : ((t : Int) == n) = true := by rw [beq_iff_eq]; exact htn
          have HK3 := Lib.hid (HK2.out ⟨by rw [HT.out]; omega, (chkP_ok HE.out).2⟩)
          clear htn HK2
          go_wp2_with fail
          exact ⟨⟨k + 1, by omega, by simp, HK3, HF2⟩, by simp only [intOf]; omega⟩
        · have g : ((t : Int) == n) = false := by rw [beq_eq_false_iff_ne]; exact htn
          clear htn
          go_wp2_with fail
          go_ret
          exact ⟨3, rfl, fun h => by omega, HF2.out⟩
      · have g : (er == 0) = false := by rw [beq_eq_false_iff_ne]; exact he
        clear he
        go_wp2_with fail
        go_ret
        exact ⟨3, rfl, fun h => by omega, HF2.out⟩
    · have HQ : Hid (OrbIn n m R) := Lib.hid ⟨HB.out.1, HB.out.2.1, HB.out.2.2, fun p hp => by
        obtain ⟨q, hq, rfl⟩ := List.mem_map.1 hp
        obtain ⟨j, hj, rfl⟩ := List.getElem_of_mem hq
        exact HK.out j hj (by rw [HM.out] at hj; omega)⟩
      go_wp2_with fail
      go_ret
      exact ⟨0, rfl, fun _ => HQ.out, HF.out⟩
end Go.Proofs.Ytooghdnlaonkaaa
