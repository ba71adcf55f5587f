/- Several of my texts in one: Arr3, Lot. -/
import Derived.Test.YtbolgfiafbhicaaDoorDF05
import Derived.Laws.AppendOwnNone
/- append of a whole slice; rows of slices. -/
namespace Go.Proofs.YtbolgfiafbhicaaDoor
open Go.RowKit

theorem Fr.none {w0 w : World} {L : List Ent} {T : TypeId} {ad : Option Addr} {n cap : Nat} {xs : List Value} (h : Fr w0 w (⟨T, .slice ad n cap, xs⟩ :: L)) (e : ad = .none) : n = 0 ∧ cap = 0 := by
  rcases (h.os.own _ List.mem_cons_self).elim with ⟨rfl, ⟨rfl, rfl, rfl⟩ | ⟨g, cur, rfl, h2, h3, h4, h5, h6, h7⟩⟩
  · exact ⟨rfl, rfl⟩
  · cases e
/-- append of the cells of another slice to the first of them -/
theorem wpList_pushAll {ops : Array Oper} {rest : List Oper} {o : Oper} {a : Act} {Q : Exit → Act → World → Prop} {w0 w : World} (hgd : o.guard = .none) (s x : Operand) (S T : TypeId) (z : Value) (bytes : Nat)
    (hS : Tryd.prog.underlying S = some (.slice T)) (hT : (Tryd.prog.info? T).map (fun i => (i.zero, i.size, i.bytes)) = some (some z, 1, bytes)) (hz : z.cells.size = 1) (hby : bytes ≤ 1000)
    (ho : o.op = .call { callee := .builtin .append, args := #[s, x], argTypes := #[S, S] })
    (ad sp : Option Addr) (n cap m c : Nat) (xs ys : List Value) (L : List Ent) (hs : a.eval s = .slice ad n cap) (hF : Fr w0 w (⟨T, .slice ad n cap, xs⟩ :: L))
    (hx : a.eval x = .slice sp m c) (hY : Sa w sp ys) (hm : ys.length = m) (hnone : sp = .none → c = 0 ∧ m = 0) (h1 : ∀ u ∈ ys, u.oneCell' = true) (hlen : n + m ≤ 1000000)
    (h : ∀ ad' cap' w', Fr w0 w' (⟨T, .slice ad' (n + m) cap', xs ++ ys⟩ :: L) → w.heap.size ≤ w'.heap.size → wpList Tryd.prog ops Q rest (a.put o.dst (.slice ad' (n + m) cap')) w') :
    wpList Tryd.prog ops Q (o :: rest) a w := by
  obtain ⟨i0, hi, hz0, hz1, hz2⟩ := info_parts hT
  have hn := hF.len
  have hO := hF.os.own _ List.mem_cons_self
  cases sp with
  | none =>
    obtain ⟨rfl, rfl⟩ := hnone rfl
    obtain rfl := List.eq_nil_of_length_eq_zero hm
    subst hn
    refine wpList_append_own_none hgd s x S ho w0.heap.size T i0 1 hS hi (.slice ad xs.length cap) xs.length xs hs (by rw [← hz1]; exact hz1 ▸ hO) hx ?_
    exact h ad cap w (by simpa using hF) (Nat.le_refl _)
  | some sad =>
    subst hn
    refine wpList_append_own_at _ hgd s x S ho w0.heap.size T i0 z 1 bytes hS hi hz0 hz1 hz2 hz (by decide) (.slice ad xs.length cap) xs.length xs hs hO
      sad m c ys hx (by omega) ?_ h1 ?_ ?_ ?_ ?_
    · intro j u hj
      have hjl : j < ys.length := (List.getElem?_eq_some_iff.1 hj).1
      obtain ⟨b, off, e, _, hc⟩ := hY.at j hjl
      cases e
      rw [show ((⟨b, off, .none⟩ : Addr).add j) = ⟨b, off + j, .none⟩ from by unfold Addr.add; split <;> simp_all, hc, hj]
    · unfold maxLen; omega
    · calc (xs.length + m) * bytes ≤ 1000001 * 1000 := Nat.mul_le_mul (by omega) hby
        _ ≤ _ := by omega
    · exact hF.bel.size
    · intro v' w' k1 k2 hnil hat
      have hsz := k2.size
      have hb0 := hF.bel.size
      have e1 : (xs ++ ys).length = xs.length + m := by rw [List.length_append, hm]
      obtain ⟨ad', cap', rfl⟩ : ∃ ad' cap', v' = .slice ad' (xs.length + m) cap' := by
        rcases k1.2 with ⟨e1, e2⟩ | ⟨g, cap', cur, e1, _⟩
        · exact ⟨.none, 0, by rw [e2, e1]⟩
        · exact ⟨_, _, e1⟩
      refine h ad' cap' w' ⟨?_, ⟨fun e he => ?_, ?_⟩⟩ (by omega)
      · refine Below.grown (row := (Value.slice ad xs.length cap).ownBlock) hF.bel k2 (by omega) ?_
        intro k hk
        exact (Ent.own.lt hO k hk).1
      · rcases List.mem_cons.1 he with rfl | he
        · unfold Ent.own; simp only [e1]; exact k1
        · refine World.ownsRow.kept (hF.os.own e (List.mem_cons_of_mem _ he)) k2 ?_
          exact ((List.pairwise_cons.1 hF.os.far).1 e he).symm
      · have hf := List.pairwise_cons.1 hF.os.far
        refine List.pairwise_cons.2 ⟨fun b hb => ?_, hf.2⟩
        have hbf := hf.1 b hb
        have hlt := Ent.own.lt (hF.os.own b (List.mem_cons_of_mem _ hb))
        rcases hat with hat | hat
        · rcases hbf with hbf | hbf
          · exact .inl (show (Value.slice ad' (xs.length + m) cap').ownBlock = .none by rw [hat]; exact hbf)
          · exact .inr (show (Value.slice ad' (xs.length + m) cap').ownBlock ≠ _ by rw [hat]; exact hbf)
        · refine .inr (show (Value.slice ad' (xs.length + m) cap').ownBlock ≠ _ from ?_)
          rw [hat]
          intro e
          have := (hlt _ e.symm).2
          omega

/-- a copy of a slice of ints: append([]int{}, l...) -/
theorem wpList_copyOf {ops : Array Oper} {rest : List Oper} {o : Oper} {a : Act} {Q : Exit → Act → World → Prop} {w0 w : World} (hgd : o.guard = .none) (s x : Operand)
    (ho : o.op = .call { callee := .builtin .append, args := #[s, x], argTypes := #[76, 76] })
    (ad0 sp : Option Addr) (n c : Nat) (l : List Int) (L : List Ent) (hs : a.eval s = .slice ad0 0 0) (hF : Fr w0 w (⟨3, .slice ad0 0 0, ints []⟩ :: L))
    (hx : a.eval x = .slice sp n c) (hY : Sa w sp (ints l)) (hm : (ints l).length = n) (hnone : sp = .none → c = 0 ∧ n = 0) (hlen : n ≤ 1000000)
    (h : ∀ ad' cap' w', Fr w0 w' (⟨3, .slice ad' n cap', ints l⟩ :: L) → w.heap.size ≤ w'.heap.size → wpList Tryd.prog ops Q rest (a.put o.dst (.slice ad' n cap')) w') :
    wpList Tryd.prog ops Q (o :: rest) a w := by
  refine wpList_pushAll hgd s x 76 3 (.int .i64 0) 8 Tryd.underlying76 intInfo rfl (by omega) ho ad0 sp 0 0 n c (ints []) (ints l) L hs hF hx hY hm hnone (ints_oneCell .i64 l) (by omega) ?_
  intro ad' cap' w' h1 h2
  rw [Nat.zero_add] at h1 ⊢
  exact h ad' cap' w' h1 h2
/-- one number of the first of them -/
theorem Fr.openI {w0 w : World} {L : List Ent} {T : TypeId} {ad : Option Addr} {n cap : Nat} {l : List Int} (h : Fr w0 w (⟨T, .slice ad n cap, ints l⟩ :: L)) (i : Nat) (hi : i < l.length) :
    ∃ g, ad = some ⟨g, 0, .none⟩ ∧ w0.heap.size ≤ g ∧ w.cell? ⟨g, i, .none⟩ = some (.int .i64 (nth l i)) ∧ w.frozen? ⟨g, i, .none⟩ = false := by
  obtain ⟨g, e, h1, _, h2, h3⟩ := h.open (by rw [ints_len]; omega)
  exact ⟨g, e, h1, by rw [h2 i (by rw [ints_len]; exact hi), ints_get l i hi], h3 i⟩
/-! rows -/
/-- a row of ints: address, capacity, numbers -/
abbrev Rw := Option Addr × Nat × List Int
def rv (p : Rw) : Value := .slice p.1 p.2.2.length p.2.1
def re (p : Rw) : Ent := ⟨3, rv p, ints p.2.2⟩
theorem rv_one (R : List Rw) : ∀ u ∈ R.map rv, u.oneCell' = true := by
  intro u hu
  obtain ⟨p, _, rfl⟩ := List.mem_map.1 hu
  rfl
theorem Fr.mem {w0 w : World} {L : List Ent} (h : Fr w0 w L) {T : TypeId} {ad : Option Addr} {n cap : Nat} {xs : List Value} (he : (⟨T, .slice ad n cap, xs⟩ : Ent) ∈ L) : Sa w ad xs := by
  obtain ⟨i, hi⟩ := List.mem_iff_getElem?.1 he
  exact h.get i hi
theorem Fr.pick {w0 w : World} {L : List Ent} (h : Fr w0 w L) {e : Ent} (he : e ∈ L) : Fr w0 w [e] := h.sub (List.singleton_sublist.2 he)
theorem slsInfo : (Tryd.prog.info? 76).map (fun i => (i.zero, i.size, i.bytes)) = some (some (.slice .none 0 0), 1, 24) := by kernel_rfl
end Go.Proofs.YtbolgfiafbhicaaDoor
/- Contracts of package lottery, at tickets that are right. -/
namespace Go.Proofs.YtbolgfiafbhicaaDoor
open Go.RowKit

def isum : List Int → Int
  | [] => 0
  | x :: r => x + isum r
theorem isum_app : ∀ l m : List Int, isum (l ++ m) = isum l + isum m
  | [], m => by simp [isum]
  | x :: r, m => by rw [List.cons_append, isum, isum, isum_app r m]; omega
theorem isum_snoc (l : List Int) (x : Int) : isum (l ++ [x]) = isum l + x := by rw [isum_app]; simp [isum]
theorem isum_take (l : List Int) (k : Nat) (h : k < l.length) : isum (l.take (k + 1)) = isum (l.take k) + nth l k := by rw [take_nth l k h, isum_snoc]
theorem drop_nth (l : List Int) (k : Nat) (h : k < l.length) : l.drop k = nth l k :: l.drop (k + 1) := by
  rw [List.drop_eq_getElem_cons h]; simp [nth, h]
theorem isum_bd (m : Int) (l : List Int) (h : ∀ k, k < l.length → 0 ≤ nth l k ∧ nth l k ≤ m) : ∀ k, k ≤ l.length → 0 ≤ isum (l.take k) ∧ isum (l.take k) ≤ m * k
  | 0, _ => by simp [isum]
  | k + 1, hk => by
    have h1 := isum_bd m l h k (by omega)
    have h2 := h k (by omega)
    rw [isum_take l k (by omega)]
    have : m * ((k + 1 : Nat) : Int) = m * (k : Int) + m := by rw [Int.natCast_add, Int.mul_add]; simp
    omega

def TkOk (l : List Int) : Prop := l.length ≤ 8 ∧ ∀ k, k < l.length → 0 ≤ nth l k ∧ nth l k ≤ 100
theorem TkOk.sum {l : List Int} (h : TkOk l) (k : Nat) (hk : k ≤ l.length) : 0 ≤ isum (l.take k) ∧ isum (l.take k) ≤ 800 := by
  have := isum_bd 100 l h.2 k hk
  have := h.1
  omega

set_option maxHeartbeats 1000000 in
theorem lotChk (l : List Int) (n : Nat) (a : Option Addr) (cap : Nat) (w : World) (h : Sa w a (ints l)) (hn : l.length = n) (hp : TkOk l) :
    Calls Tryd.prog 80 #[.slice a n cap] w fun e w' => e = .returned (.int .i64 0) ∧ w = w' := by
  have hl := hp.1
  rw [hn] at hl
  have HN := Lib.hid hn; have HS := Lib.hid h; have HP := Lib.hid hp.2
  clear hn h hp
  go_enter Tryd.func80, Tryd.ntmps80
  go_wp2_with fail
  go_loop [10] (fun i => ∃ k : Nat, k ≤ n ∧ i = .int .i64 k) (fun i => n - (intOf i).toNat)
  case atStart => exact ⟨0, by omega, rfl⟩
  case round =>
    obtain ⟨k, hk, rfl⟩ := hrel
    by_cases hlt : k < n
    · obtain ⟨b, off, rfl, hb, hc⟩ := HS.out.int k (by rw [HN.out]; exact hlt)
      obtain ⟨p1, p2⟩ := HP.out k (by rw [HN.out]; exact hlt)
      obtain ⟨x, hx⟩ : ∃ x, nth l k = x := ⟨_, rfl⟩
      rw [hx] at hc p1 p2
      clear hx
      go_wp2_with fail
      exact ⟨⟨k + 1, by omega, by simp⟩, by simp only [intOf]; omega⟩
    · go_wp2_with fail
      go_ret
      exact ⟨rfl, rfl⟩

set_option maxHeartbeats 1000000 in
theorem lotAll (l : List Int) (n : Nat) (a : Option Addr) (cap : Nat) (w : World) (h : Sa w a (ints l)) (hn : l.length = n) (hp : TkOk l) :
    Calls Tryd.prog 79 #[.slice a n cap] w fun e w' => e = .returned (.tuple #[.int .i64 (isum l), .int .i64 0]) ∧ w = w' := by
  have hl := hp.1
  rw [hn] at hl
  have HN := Lib.hid hn; have HS := Lib.hid h; have HP := Lib.hid hp
  clear hn h hp
  go_enter Tryd.func79, Tryd.ntmps79
  go_wp2_with fail
  refine (lotChk l n _ _ _ HS.out HN.out HP.out).mono ?_; rintro e w' ⟨rfl, rfl⟩
  go_wp2_with fail
  go_loop [5, 15] (fun s i => ∃ k : Nat, k ≤ n ∧ i = .int .i64 k ∧ s = .int .i64 (isum (l.take k))) (fun _ i => n - (intOf i).toNat)
  case atStart => exact ⟨0, by omega, rfl, rfl⟩
  case round =>
    obtain ⟨k, hk, rfl, rfl⟩ := hrel
    by_cases hlt : k < n
    · obtain ⟨b, off, rfl, hb, hc⟩ := HS.out.int k (by rw [HN.out]; exact hlt)
      obtain ⟨p1, p2⟩ := HP.out.2 k (by rw [HN.out]; exact hlt)
      obtain ⟨s1, s2⟩ := HP.out.sum k (by rw [HN.out]; exact hk)
      have hs := Lib.hid (isum_take l k (by rw [HN.out]; exact hlt))
      obtain ⟨x, hx⟩ : ∃ x, nth l k = x := ⟨_, rfl⟩
      obtain ⟨S, hS⟩ : ∃ S, isum (l.take k) = S := ⟨_, rfl⟩
      rw [hx] at hc p1 p2
      rw [hS] at s1 s2 ⊢
      have HX := Lib.hid hx; have HSS := Lib.hid hS
      clear hx hS
      go_wp2_with fail
      exact ⟨⟨k + 1, by omega, by simp, by rw [hs.out, HSS.out, HX.out]⟩, by simp only [intOf]; omega⟩
    · have hkn : l.take k = l := List.take_of_length_le (by rw [HN.out]; omega)
      rw [hkn]
      go_wp2_with fail
      go_ret2
      exact ⟨rfl, rfl⟩

/-- who has the lot -/
def winL : List Int → Int → Nat
  | [], _ => 0
  | x :: r, lot => if x ≤ lot then winL r (lot - x) + 1 else 0

set_option maxHeartbeats 1000000 in
theorem lotWinner (l : List Int) (n : Nat) (a : Option Addr) (cap : Nat) (lot : Int) (w : World) (h : Sa w a (ints l)) (hn : l.length = n) (hp : TkOk l) (h0 : 0 ≤ lot) (h1 : lot < isum l) :
    Calls Tryd.prog 52 #[.slice a n cap, .int .i64 lot] w fun e w' => e = .returned (.tuple #[.int .i64 (winL l lot : Nat), .int .i64 0]) ∧ w = w' := by
  have hl := hp.1
  have hb := hp.sum l.length (Nat.le_refl _)
  rw [List.take_length] at hb
  rw [hn] at hl
  have HN := Lib.hid hn; have HS := Lib.hid h; have HP := Lib.hid hp; have H1 := Lib.hid h1
  obtain ⟨S, hS⟩ : ∃ S, isum l = S := ⟨_, rfl⟩
  rw [hS] at hb h1
  have HSS := Lib.hid hS
  clear hn h hp hS
  go_enter Tryd.func52, Tryd.ntmps52
  go_wp2_with fail
  refine (lotAll l n _ _ _ HS.out HN.out HP.out).mono ?_; rintro e w' ⟨rfl, rfl⟩
  rw [HSS.out]
  have q0 : (S == 0) = false := by rw [beq_eq_false_iff_ne]; omega
  go_wp2_with fail
  go_loop [1, 8] (fun lo i => ∃ (k : Nat) (t : Int), k ≤ n ∧ i = .int .i64 k ∧ lo = .int .i64 t ∧ 0 ≤ t ∧ t ≤ 800 ∧ t < isum (l.drop k) ∧ Hid (winL l lot = k + winL (l.drop k) t)) (fun _ i => n + 1 - (intOf i).toNat)
  case atStart => exact ⟨0, lot, by omega, rfl, rfl, h0, by omega, H1.out, Lib.hid (by simp)⟩
  case round =>
    obtain ⟨k, t, hk, rfl, rfl, t0, t1, t2, HW⟩ := hrel
    have hlt : k < n := by
      rcases Nat.lt_or_ge k n with h | h
      · exact h
      · rw [List.drop_of_length_le (by rw [HN.out]; exact h)] at t2
        simp [isum] at t2; omega
    obtain ⟨b, off, rfl, hbb, hc⟩ := HS.out.int k (by rw [HN.out]; exact hlt)
    obtain ⟨p1, p2⟩ := HP.out.2 k (by rw [HN.out]; exact hlt)
    have hd := drop_nth l k (by rw [HN.out]; exact hlt)
    have hw := HW.out
    rw [hd] at t2 hw
    obtain ⟨x, hx⟩ : ∃ x, nth l k = x := ⟨_, rfl⟩
    rw [hx] at hc p1 p2 t2 hw
    rw [isum] at t2
    rw [winL] at hw
    clear hx hd HW
    by_cases hxt : x ≤ t
    · rw [if_pos hxt] at hw
      have HW := Lib.hid hw
      have T2 := Lib.hid t2
      clear hw t2
      go_wp2_with fail
      exact ⟨⟨k + 1, t - x, by omega, by simp, rfl, by omega, by omega, by have := T2.out; omega, Lib.hid (by have := HW.out; omega)⟩, by simp only [intOf]; omega⟩
    · rw [if_neg hxt, Nat.add_zero] at hw
      have HW := Lib.hid hw
      clear hw t2
      go_wp2_with fail
      go_ret2
      exact ⟨by rw [HW.out]; rfl, rfl⟩

set_option maxHeartbeats 400000 in
theorem lotWinner0 (l : List Int) (n : Nat) (a : Option Addr) (cap : Nat) (lot : Int) (w : World) (h : Sa w a (ints l)) (hn : l.length = n) (hp : TkOk l) (h1 : isum l = 0) :
    Calls Tryd.prog 52 #[.slice a n cap, .int .i64 lot] w fun e w' => e = .returned (.tuple #[.int .i64 0, .int .i64 4]) ∧ w = w' := by
  have HN := Lib.hid hn; have HS := Lib.hid h; have HP := Lib.hid hp; have H1 := Lib.hid h1
  clear hn h hp h1
  go_enter Tryd.func52, Tryd.ntmps52
  go_wp2_with fail
  refine (lotAll l n _ _ _ HS.out HN.out HP.out).mono ?_; rintro e w' ⟨rfl, rfl⟩
  rw [H1.out]
  go_wp2_with fail
  go_ret2
  exact ⟨rfl, rfl⟩

/-! tickets of any numbers -/
def tkL (l : List Int) : List Int := (l.take 8).map (· % 21)
theorem tkL_len (l : List Int) : (tkL l).length = min 8 l.length := by simp [tkL]
theorem tkL_nth (l : List Int) (k : Nat) (h : k < (tkL l).length) : nth (tkL l) k = nth l k % 21 := by
  unfold tkL at h ⊢
  rw [List.length_map, List.length_take] at h
  have h1 : k < (l.take 8).length := by rw [List.length_take]; exact h
  rw [nth_map _ _ k h1, nth_take l 8 k (by omega)]
theorem tkL_ok (l : List Int) : TkOk (tkL l) := by
  refine ⟨by rw [tkL_len]; omega, fun k hk => ?_⟩
  rw [tkL_nth l k hk]; omega
theorem tkL_20 (l : List Int) (k : Nat) (hk : k < (tkL l).length) : 0 ≤ nth (tkL l) k ∧ nth (tkL l) k ≤ 20 := by
  rw [tkL_nth l k hk]; omega

def MadeSl (l : List Int) (w : World) (e : Ending) (w' : World) : Prop :=
  ∃ (ad : Option Addr) (n cp : Nat), e = .returned (.slice ad n cp) ∧ l.length = n ∧ n ≤ cp ∧ Fr w w' [⟨3, .slice ad n cp, ints l⟩]

end Go.Proofs.YtbolgfiafbhicaaDoor
