/- Several of my texts in one: DOwn1, DOwn2. -/
import Derived.Test.YtooghdnlaonkaaaDw08
import Derived.Test.YtooghdnlaonkaaaDw13
import Derived.Test.YtooghdnlaonkaaaDw14
import Derived.Test.YtooghdnlaonkaaaDw26
/- What DrawsOwn calls, at any input: tape.Row, lottery.Lend. -/
namespace Go.Proofs.Ytooghdnlaonkaaa
open Go.RowKit

def tpB (l : List Int) : Int := if 200 < l.length then 2 else if ∀ x ∈ l, x ≤ 1 then 0 else 3
theorem mem_nth {l : List Int} {x : Int} (h : x ∈ l) : ∃ j, j < l.length ∧ nth l j = x := by
  obtain ⟨j, hj, e⟩ := List.getElem_of_mem h
  exact ⟨j, hj, by simp [nth, hj, e]⟩
set_option maxRecDepth 100000 in
set_option maxHeartbeats 1000000 in
theorem tpChkA (l : List Int) (n : Nat) (a : Option Addr) (cap : Nat) (w : World) (h : Sa w a (byts l)) (hn : l.length = n) (hm : n ≤ maxLen) :
    Calls Try.prog 90 #[.slice a n cap] w fun e w' => e = .returned (.int .i64 (tpB l)) ∧ w = w' := by
  have HN := Lib.hid hn; have HS := Lib.hid h
  unfold maxLen at hm
  clear hn h
  by_cases hl : 200 < n
  · have HR : Hid (tpB l = 2) := Lib.hid (by unfold tpB; rw [if_pos (by rw [HN.out]; exact hl)])
    have g : decide ((200 : Int) < (n : Int)) = true := decide_eq_true (by omega)
    go_enter Try.func90, Try.ntmps90
    go_wp2_with fail
    go_ret
    exact ⟨by rw [HR.out]; rfl, rfl⟩
  · have g : decide ((200 : Int) < (n : Int)) = false := decide_eq_false (by omega)
    go_enter Try.func90, Try.ntmps90
    go_wp2_with fail
    clear g
    go_loop [10] (fun i => ∃ k : Nat, k ≤ n ∧ i = .int .i64 k ∧ Hid (∀ j, j < k → nth l j ≤ 1)) (fun i => n - (intOf i).toNat)
    case atStart => exact ⟨0, by omega, rfl, Lib.hid fun j hj => by omega⟩
    case round =>
      obtain ⟨k, hk, rfl, HK⟩ := hrel
      by_cases hlt : k < n
      · obtain ⟨b, off, rfl, hb, hc⟩ := HS.out.byt k (by rw [HN.out]; exact hlt)
        by_cases p1 : nth l k ≤ 1
        · have HK2 : Hid (∀ j, j < k + 1 → nth l j ≤ 1) := Lib.hid fun j hj => by
            rcases Nat.lt_succ_iff_lt_or_eq.1 hj with h | rfl
            · exact HK.out j h
            · exact p1
          obtain ⟨x, hx⟩ : ∃ x, nth l k = x := ⟨_, rfl⟩
          rw [hx] at hc p1
          have g : decide ((1 : Int) < x) = false := decide_eq_false (by omega)
          clear hx p1
          go_wp2_with fail
          exact ⟨⟨k + 1, by omega, by simp, HK2⟩, by simp only [intOf]; omega⟩
        · have HR : Hid (tpB l = 3) := Lib.hid (by
            unfold tpB
            rw [if_neg (by rw [HN.out]; exact hl), if_neg (fun h => p1 (h _ (nth_mem _ _ (by rw [HN.out]; exact hlt))))])
          obtain ⟨x, hx⟩ : ∃ x, nth l k = x := ⟨_, rfl⟩
          rw [hx] at hc p1
          have g : decide ((1 : Int) < x) = true := decide_eq_true (by omega)
          clear hx p1
          go_wp2_with fail
          go_ret
          exact ⟨by rw [HR.out]; rfl, rfl⟩
      · have HR : Hid (tpB l = 0) := Lib.hid (by
          unfold tpB
          rw [if_neg (by rw [HN.out]; exact hl), if_pos]
          intro x hx
          obtain ⟨j, hj, rfl⟩ := mem_nth hx
          exact HK.out j (by rw [HN.out] at hj; omega))
        go_wp2_with fail
        go_ret
        exact ⟨by rw [HR.out]; rfl, rfl⟩
theorem rowS_pos : ∀ (r l o : List Int) (a : Nat), Bit01 l → rowS r l = .ok (o, a) → ∀ x ∈ o, 0 ≤ x
  | [], l, o, a, _, h => by
    rw [rowS] at h; simp only [Except.ok.injEq, Prod.mk.injEq] at h
    obtain ⟨rfl, rfl⟩ := h; intro x hx; cases hx
  | n :: r, l, o, a, hb, h => by
    by_cases hn : 1 ≤ n ∧ n ≤ 1024
    · cases hd : drawR (bitsN n.toNat) n l 0 with
      | none => rw [rowS_short n r l hn hd] at h; cases h
      | some p =>
        obtain ⟨y, u⟩ := p
        rw [rowS_ok n r l hn y u hd] at h
        cases hr : rowS r (l.drop u) with
        | error e => rw [hr] at h; cases h
        | ok q =>
          obtain ⟨o', b⟩ := q
          rw [hr] at h
          simp only [comb, Except.ok.injEq, Prod.mk.injEq] at h
          obtain ⟨rfl, rfl⟩ := h
          intro x hx
          rcases List.mem_append.1 hx with hx | hx
          · rw [List.mem_singleton] at hx
            subst hx
            exact (drawF_bd _ _ _ _ _ _ _ hb hd).1
          · exact rowS_pos r _ o' b (hb.drop u) hr x hx
    · rw [rowS_bad n r l hn] at h; cases h
def rowE (l most : List Int) : Int := if tpB l ≠ 0 then tpB l else if 30 < most.length then 2 else match rowS most l with
  | .ok _ => 0
  | .error e => e
def RowU (er : Int) (w : World) (e : Ending) (w' : World) : Prop := ∃ (u : Int) (R : List Int) (nr : Nat) (ar : Option Addr) (cr : Nat), e = .returned (.tuple #[.slice ar nr cr, .int .i64 u, .int .i64 er]) ∧ R.length = nr ∧ nr ≤ 30 ∧ Fr w w' [⟨3, .slice ar nr cr, ints R⟩] ∧ -7 ∉ R
set_option maxRecDepth 100000 in
set_option maxHeartbeats 1000000 in
theorem tpRowA (l most : List Int) (n m : Nat) (a b : Option Addr) (ca cb : Nat) (w : World) (h : Sa w a (byts l)) (h' : Sa w b (ints most)) (hn : l.length = n) (hm : most.length = m) (hp : ∀ x ∈ l, 0 ≤ x) (hl : n ≤ maxLen) (hc : n ≤ ca) (hm2 : m ≤ maxLen) :
    Calls Try.prog 40 #[.slice a n ca, .slice b m cb] w (RowU (rowE l most) w) := by
  by_cases hb : tpB l = 0
  · by_cases h30 : 30 < m
    · have e1 : rowE l most = 2 := by unfold rowE; rw [if_neg (by simp [hb]), if_pos (by rw [hm]; exact h30)]
      rw [e1]
      have HC := Lib.hid (tpChkA l n a ca w h hn hl)
      rw [hb] at HC
      have HF := Lib.hid ((Fr.start w).nilSlice 3)
      unfold maxLen at hl hm2
      have g : decide ((30 : Int) < (m : Int)) = true := decide_eq_true (by omega)
      clear h h' hn hm hp hb e1
      go_enter Try.func40, Try.ntmps40
      go_wp2_with fail
      refine HC.out.mono ?_; rintro e w' ⟨rfl, rfl⟩
      clear HC
      go_wp2_with fail
      go_ret3
      exact ⟨0, [], 0, none, 0, rfl, rfl, by omega, HF.out, by simp⟩
    · have hlen : ¬ 200 < l.length := fun h => by unfold tpB at hb; rw [if_pos h] at hb; cases hb
      have hall : ∀ x ∈ l, x ≤ 1 := by
        unfold tpB at hb
        rw [if_neg hlen] at hb
        by_cases h : ∀ x ∈ l, x ≤ 1
        · exact h
        · rw [if_neg h] at hb; cases hb
      have hbit : Bit01 l := fun x hx => ⟨hp x hx, hall x hx⟩
      refine (tpRow l most n m a b ca cb w h h' hn hm hbit (by omega) hc (by omega)).mono ?_
      rintro e w' (⟨o, u, ad, cp, h1, h2, h3⟩ | ⟨err, -, h1, h2, h3⟩)
      · have e1 : rowE l most = 0 := by unfold rowE; rw [if_neg (by simp [hb]), if_neg (by omega), h1]
        rw [e1]
        refine ⟨(u : Nat), o, m, ad, cp, h2, by rw [← hm]; exact (rowS_len _ _ _ _ h1).1, by omega, h3, fun hx => ?_⟩
        have := rowS_pos _ _ _ _ hbit h1 _ hx
        omega
      · have e1 : rowE l most = err := by unfold rowE; rw [if_neg (by simp [hb]), if_neg (by omega), h1]
        rw [e1]
        exact ⟨0, [], 0, none, 0, h2, rfl, by omega, h3.nilSlice 3, by simp⟩
  · have e1 : rowE l most = tpB l := by unfold rowE; rw [if_pos hb]
    rw [e1]
    have HC := Lib.hid (tpChkA l n a ca w h hn hl)
    obtain ⟨er, her⟩ : ∃ er, tpB l = er := ⟨_, rfl⟩
    rw [her] at HC hb ⊢
    have HF := Lib.hid ((Fr.start w).nilSlice 3)
    have g : (er == 0) = false := by simpa using hb
    clear h h' hn hm hp hb e1 her
    go_enter Try.func40, Try.ntmps40
    go_wp2_with fail
    refine HC.out.mono ?_; rintro e w' ⟨rfl, rfl⟩
    clear HC
    go_wp2_with fail
    go_ret3
    exact ⟨0, [], 0, none, 0, rfl, rfl, by omega, HF.out, by simp⟩
def lotB (l : List Int) : Int := if 8 < l.length then 2 else if ∀ x ∈ l, 0 ≤ x ∧ x ≤ 100 then 0 else 1
set_option maxRecDepth 100000 in
set_option maxHeartbeats 1000000 in
theorem lotChkA (l : List Int) (n : Nat) (a : Option Addr) (cap : Nat) (w : World) (h : Sa w a (ints l)) (hn : l.length = n) (hm : n ≤ maxLen) :
    Calls Try.prog 94 #[.slice a n cap] w fun e w' => e = .returned (.int .i64 (lotB l)) ∧ w = w' := by
  have HN := Lib.hid hn; have HS := Lib.hid h
  unfold maxLen at hm
  clear hn h
  by_cases hl : 8 < n
  · have HR : Hid (lotB l = 2) := Lib.hid (by unfold lotB; rw [if_pos (by rw [HN.out]; exact hl)])
    have g : decide ((8 : Int) < (n : Int)) = true := decide_eq_true (by omega)
    go_enter Try.func94, Try.ntmps94
    go_wp2_with fail
    go_ret
    exact ⟨by rw [HR.out]; rfl, rfl⟩
  · have g : decide ((8 : Int) < (n : Int)) = false := decide_eq_false (by omega)
    go_enter Try.func94, Try.ntmps94
    go_wp2_with fail
    clear g
    go_loop [10] (fun i => ∃ k : Nat, k ≤ n ∧ i = .int .i64 k ∧ Hid (∀ j, j < k → 0 ≤ nth l j ∧ nth l j ≤ 100)) (fun i => n - (intOf i).toNat)
    case atStart => exact ⟨0, by omega, rfl, Lib.hid fun j hj => by omega⟩
    case round =>
      obtain ⟨k, hk, rfl, HK⟩ := hrel
      by_cases hlt : k < n
      · obtain ⟨b, off, rfl, hb, hc⟩ := HS.out.int k (by rw [HN.out]; exact hlt)
        have hmem := nth_mem l k (by rw [HN.out]; exact hlt)
        by_cases p1 : nth l k < 0
        · have HR : Hid (lotB l = 1) := Lib.hid (by
            unfold lotB
            rw [if_neg (by rw [HN.out]; exact hl), if_neg (fun h => by have := h _ hmem; omega)])
          obtain ⟨x, hx⟩ : ∃ x, nth l k = x := ⟨_, rfl⟩
          rw [hx] at hc p1
          have g : decide (x < (0 : Int)) = true := decide_eq_true (by omega)
          clear hx p1 hmem
          go_wp2_with fail
          go_ret
          exact ⟨by rw [HR.out]; rfl, rfl⟩
        · by_cases p2 : 100 < nth l k
          · have HR : Hid (lotB l = 1) := Lib.hid (by
              unfold lotB
              rw [if_neg (by rw [HN.out]; exact hl), if_neg (fun h => by have := h _ hmem; omega)])
            obtain ⟨x, hx⟩ : ∃ x, nth l k = x := ⟨_, rfl⟩
            rw [hx] at hc p1 p2
            have g : decide (x < (0 : Int)) = false := decide_eq_false (by omega)
            have g2 : decide ((100 : Int) < x) = true := decide_eq_true (by omega)
            clear hx p1 p2 hmem
            go_wp2_with fail
            go_ret
            exact ⟨by rw [HR.out]; rfl, rfl⟩
          · have HK2 : Hid (∀ j, j < k + 1 → 0 ≤ nth l j ∧ nth l j ≤ 100) := Lib.hid fun j hj => by
              rcases Nat.lt_succ_iff_lt_or_eq.1 hj with h | rfl
              · exact HK.out j h
              · exact ⟨by omega, by omega⟩
            obtain ⟨x, hx⟩ : ∃ x, nth l k = x := ⟨_, rfl⟩
            rw [hx] at hc p1 p2
            have g : decide (x < (0 : Int)) = false := decide_eq_false (by omega)
            have g2 : decide ((100 : Int) < x) = false := decide_eq_false (by omega)
            clear hx p1 p2 hmem
            go_wp2_with fail
            exact ⟨⟨k + 1, by omega, by simp, HK2⟩, by simp only [intOf]; omega⟩
      · have HR : Hid (lotB l = 0) := Lib.hid (by
          unfold lotB
          rw [if_neg (by rw [HN.out]; exact hl), if_pos]
          intro x hx
          obtain ⟨j, hj, rfl⟩ := mem_nth hx
          exact HK.out j (by rw [HN.out] at hj; omega))
        go_wp2_with fail
        go_ret
        exact ⟨by rw [HR.out]; rfl, rfl⟩
def SlU (w : World) (e : Ending) (w' : World) : Prop := ∃ (er : Int) (R : List Int) (nr : Nat) (ar : Option Addr) (cr : Nat), e = .returned (.tuple #[.slice ar nr cr, .int .i64 er]) ∧ Fr w w' [⟨3, .slice ar nr cr, ints R⟩]
set_option maxRecDepth 100000 in
set_option maxHeartbeats 1000000 in
theorem lotLendA (l : List Int) (n : Nat) (a : Option Addr) (cap : Nat) (f t k : Int) (w : World) (h : Sa w a (ints l)) (hn : l.length = n) (hm : n ≤ maxLen) :
    Calls Try.prog 44 #[.slice a n cap, .int .i64 f, .int .i64 t, .int .i64 k] w (SlU w) := by
  by_cases hb : lotB l = 0
  · have hlen : ¬ 8 < l.length := fun h => by unfold lotB at hb; rw [if_pos h] at hb; cases hb
    have hall : ∀ x ∈ l, 0 ≤ x ∧ x ≤ 100 := by
      unfold lotB at hb
      rw [if_neg hlen] at hb
      by_cases h : ∀ x ∈ l, 0 ≤ x ∧ x ≤ 100
      · exact h
      · rw [if_neg h] at hb; cases hb
    have hok : TkOk l := ⟨by omega, fun j hj => hall _ (nth_mem l j hj)⟩
    by_cases hc : ∃ f' t', LendOk l f t k f' t'
    · obtain ⟨f', t', hc⟩ := hc
      exact (lotLend_yes l n a cap f t k f' t' w h hn hok hc).mono fun e w' ⟨ad, cp, h1, _, h2⟩ => ⟨0, _, n, ad, cp, h1, h2⟩
    · exact (lotLend_no l n a cap f t k w h hn hok hc).mono fun e w' ⟨err, _, h1, h2⟩ => ⟨err, [], 0, none, 0, h1, h2.nilSlice 3⟩
  · have HC := Lib.hid (lotChkA l n a cap w h hn hm)
    obtain ⟨er, her⟩ : ∃ er, lotB l = er := ⟨_, rfl⟩
    rw [her] at HC hb
    have HF := Lib.hid ((Fr.start w).nilSlice 3)
    have g : (er == 0) = false := by simpa using hb
    clear h hn hb her
    go_enter Try.func44, Try.ntmps44
    go_wp2_with fail
    refine HC.out.mono ?_; rintro e w' ⟨rfl, rfl⟩
    clear HC
    go_wp2_with fail
    go_ret2
    exact ⟨er, [], 0, none, 0, rfl, HF.out⟩
end Go.Proofs.Ytooghdnlaonkaaa
/- bottom.Join and bottom.Of at any input, with what they own. -/
namespace Go.Proofs.Ytooghdnlaonkaaa
open Go.RowKit

def SmU (w : World) (e : Ending) (w' : World) : Prop := ∃ (er kk : Int) (R : List ByteArray) (ad : Option Addr) (n cp : Nat), e = .returned (.tuple #[.agg #[.int .i64 kk, .slice ad n cp], .int .i64 er]) ∧ Fr w w' [⟨9, .slice ad n cp, strV R⟩]
theorem smU_no {w : World} {e : Ending} {w' : World} (er : Int) (h1 : e = .returned (.tuple #[.agg #[.int .i64 0, .slice none 0 0], .int .i64 er])) (h2 : Fr w w' []) : SmU w e w' := ⟨er, 0, [], none, 0, 0, h1, h2.nilSlice 9⟩
theorem botOfU (hsort : SortsNames) (k : Nat) (l : List ByteArray) (n : Nat) (a : Option Addr) (cap : Nat) (w : World) (h : Sa w a (strV l)) (hn : l.length = n) (hnil : a = none → n = 0 ∧ cap = 0) (hl : n * 16 ≤ 140737488355328) (h1 : 1 ≤ k) (h2 : k ≤ 30) :
    Calls Try.prog 42 #[.int .i64 k, .slice a n cap] w (SmU w) := by
  refine (botOf hsort k l n a cap w h hn hnil hl h1 h2).mono fun e w' hp => ?_
  rcases hp with ⟨-, ad, cp, h1, h2⟩ | ⟨-, er, -, h1, h2⟩
  · exact ⟨0, k, _, ad, _, cp, h1, h2⟩
  · exact smU_no er h1 h2
set_option maxRecDepth 100000 in
set_option maxHeartbeats 8000000 in
theorem botJoinU (hsort : SortsNames) (k k' : Int) (l l' : List ByteArray) (n m : Nat) (a b : Option Addr) (ca cb : Nat) (w : World) (h : Sa w a (strV l)) (h' : Sa w b (strV l')) (hn : l.length = n) (hm : l'.length = m)
    (na : a = none → n = 0 ∧ ca = 0) (nb : b = none → m = 0 ∧ cb = 0) (l1 : n ≤ maxLen) (l2 : m ≤ maxLen) :
    Calls Try.prog 41 #[.agg #[.int .i64 k, .slice a n ca], .agg #[.int .i64 k', .slice b m cb]] w (SmU w) := by
  by_cases hall : chkB k l = 0 ∧ chkB k' l' = 0 ∧ k = k'
  · obtain ⟨o1, o2, rfl⟩ := hall
    have ho := chkB_ok.1 o1
    have ho' := chkB_ok.1 o2
    obtain ⟨j, rfl⟩ : ∃ j : Nat, k = j := ⟨k.toNat, by have := ho.m1; omega⟩
    exact (botJoin hsort j l l' n m a b ca cb w h h' hn hm na nb ho ho').mono fun e w' ⟨ad, cp, h1, h2⟩ => ⟨0, j, _, ad, _, cp, h1, h2⟩
  obtain ⟨N, hN⟩ : ∃ N, w.heap.size = N := ⟨_, rfl⟩
  have h1 := (Fr.start w).new 71 #[.int .i64 k, .slice a n ca] [.int .i64 k, .slice a n ca] rfl 2 rfl (by omega)
  have h2 := h1.new 71 #[.int .i64 k', .slice b m cb] [.int .i64 k', .slice b m cb] rfl 2 rfl (by omega)
  have h3 := h2.new 71 #[.int .i64 0, .slice none 0 0] [.int .i64 0, .slice none 0 0] rfl 2 rfl (by omega)
  have e1 : (w.alloc (.cells #[.int .i64 k, .slice a n ca] 71)).heap.size = N + 1 := by
    show (w.heap.push _).size = _
    rw [Array.size_push, hN]
  have e2 : ((w.alloc (.cells #[.int .i64 k, .slice a n ca] 71)).alloc (.cells #[.int .i64 k', .slice b m cb] 71)).heap.size = N + 1 + 1 := by
    show ((w.heap.push _).push _).size = _
    rw [Array.size_push, Array.size_push, hN]
  rw [hN, e1, e2] at h3
  have HF0 := Lib.hid h3
  have HA := Lib.hid h; have HB := Lib.hid h'; have HN := Lib.hid hn; have HM := Lib.hid hm; have HALL := Lib.hid hall; have L2 := Lib.hid l2
  have HC1 := Lib.hid (botChk k l n a ca _ (h3.old h) hn l1)
  obtain ⟨er, her⟩ : ∃ er, chkB k l = er := ⟨_, rfl⟩
  rw [her] at HC1
  have HER := Lib.hid her
  clear h1 h2 h3 e1 e2 h h' hn hm na nb hsort hall her
  unfold maxLen at l1 l2
  go_enter Try.func41, Try.ntmps41
  go_wp2_with fail
  refine HC1.out.mono ?_; rintro e w1 ⟨rfl, hf1⟩
  have HF1 := Lib.hid (HF0.out.keep hf1.bel)
  clear hf1 HC1 HF0
  by_cases z1 : er = 0
  · subst z1
    obtain ⟨-, b0, b1⟩ := smCells (HF1.out.get 1 rfl)
    have HC2 := Lib.hid (botChk k' l' m b cb w1 (HF1.out.old HB.out) HM.out L2.out)
    obtain ⟨er, her⟩ : ∃ er, chkB k' l' = er := ⟨_, rfl⟩
    rw [her] at HC2
    have HER2 := Lib.hid her
    clear her
    go_wp2_with fail
    refine HC2.out.mono ?_; rintro e w2 ⟨rfl, hf2⟩
    have HF2 := Lib.hid (HF1.out.keep hf2.bel)
    clear hf2 HC2 HF1 b0 b1
    by_cases z2 : er = 0
    · subst z2
      obtain ⟨-, a0, a1⟩ := smCells (HF2.out.get 2 rfl)
      obtain ⟨-, b0, b1⟩ := smCells (HF2.out.get 1 rfl)
      obtain ⟨g, e, -, -, t1, t2⟩ := HF2.out.open (by simp)
      cases e
      have c0 := t1 0 (by simp)
      have c1 := t1 1 (by simp)
      simp only [List.getElem?_cons_zero, List.getElem?_cons_succ] at c0 c1
      have f0 := t2 0
      have f1 := t2 1
      have HF7 := Lib.hid ((HF2.out.set 0 (.int .i64 0)).set 1 (.slice none 0 0)).below
      clear t1 t2
      have hne : k ≠ k' := fun e => HALL.out ⟨HER.out, HER2.out, e⟩
      have g : (k == k') = false := beq_eq_false_iff_ne.2 hne
      clear hne
      go_wp2_with fail
      (try simp only [Exit.inBlock, Exit.then])
      refine bodyPost_ret (v := .tuple #[.agg #[.int .i64 0, .slice none 0 0], .int .i64 3]) ?_ ?_ ?_
      · simp [results, Try.results41, go_sem, c0, c1]
      · rfl
      · exact smU_no 3 rfl HF7.out
    · obtain ⟨g, e, -, -, t1, t2⟩ := HF2.out.open (by simp)
      cases e
      have c0 := t1 0 (by simp)
      have c1 := t1 1 (by simp)
      simp only [List.getElem?_cons_zero, List.getElem?_cons_succ] at c0 c1
      have f0 := t2 0
      have f1 := t2 1
      have HF7 := Lib.hid ((HF2.out.set 0 (.int .i64 0)).set 1 (.slice none 0 0)).below
      clear t1 t2
      have g : (er == 0) = false := beq_eq_false_iff_ne.2 z2
      clear z2
      go_wp2_with fail
      (try simp only [Exit.inBlock, Exit.then])
      refine bodyPost_ret (v := .tuple #[.agg #[.int .i64 0, .slice none 0 0], .int .i64 er]) ?_ ?_ ?_
      · simp [results, Try.results41, go_sem, c0, c1]
      · rfl
      · exact smU_no er rfl HF7.out
  · obtain ⟨g, e, -, -, t1, t2⟩ := HF1.out.open (by simp)
    cases e
    have c0 := t1 0 (by simp)
    have c1 := t1 1 (by simp)
    simp only [List.getElem?_cons_zero, List.getElem?_cons_succ] at c0 c1
    have f0 := t2 0
    have f1 := t2 1
    have HF7 := Lib.hid ((HF1.out.set 0 (.int .i64 0)).set 1 (.slice none 0 0)).below
    clear t1 t2
    have g : (er == 0) = false := beq_eq_false_iff_ne.2 z1
    clear z1
    go_wp2_with fail
    (try simp only [Exit.inBlock, Exit.then])
    refine bodyPost_ret (v := .tuple #[.agg #[.int .i64 0, .slice none 0 0], .int .i64 er]) ?_ ?_ ?_
    · simp [results, Try.results41, go_sem, c0, c1]
    · rfl
    · exact smU_no er rfl HF7.out
end Go.Proofs.Ytooghdnlaonkaaa
