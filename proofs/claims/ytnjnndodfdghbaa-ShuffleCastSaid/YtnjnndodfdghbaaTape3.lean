/- Contract of tape.Row. -/
import Derived.Test.YtnjnndodfdghbaaTape2
namespace Go.Proofs.Ytnjnndodfdghbaa
open Go.RowKit

theorem drop_nthT (l : List Int) (k : Nat) (h : k < l.length) : l.drop k = nth l k :: l.drop (k + 1) := by
  rw [List.drop_eq_getElem_cons h]; simp [nth, h]
theorem drawF_le (k : Nat) (n : Int) : ∀ f r a v u, drawF k n f r a = some (v, u) → u ≤ a + r.length
  | 0, r, a, v, u, h => by cases h
  | f + 1, r, a, v, u, h => by
    rw [drawF] at h
    split at h
    · split at h
      · simp only [Option.some.injEq, Prod.mk.injEq] at h; omega
      · have := drawF_le k n f _ _ v u h
        rw [List.length_drop] at this; omega
    · cases h
theorem drawF_bd (k : Nat) (n : Int) : ∀ f r a v u, Bit01 r → drawF k n f r a = some (v, u) → 0 ≤ v ∧ v < n
  | 0, r, a, v, u, _, h => by cases h
  | f + 1, r, a, v, u, hb, h => by
    rw [drawF] at h
    split at h
    · next hk =>
      split at h
      · simp only [Option.some.injEq, Prod.mk.injEq] at h; have := valL_bd k r hb hk; omega
      · exact drawF_bd k n f _ _ v u (hb.drop k) h
    · cases h
def comb (out : List Int) (a : Nat) : Except Int (List Int × Nat) → Except Int (List Int × Nat)
  | .error e => .error e
  | .ok (o, b) => .ok (out ++ o, a + b)
theorem comb_comb (x y : List Int) (a b : Nat) (r : Except Int (List Int × Nat)) : comb x a (comb y b r) = comb (x ++ y) (a + b) r := by
  rcases r with e | ⟨o, c⟩
  · rfl
  · simp [comb, Nat.add_assoc]
theorem comb_nil (r : Except Int (List Int × Nat)) : comb [] 0 r = r := by
  rcases r with e | ⟨o, c⟩
  · rfl
  · simp [comb]
def rowS : List Int → List Int → Except Int (List Int × Nat)
  | [], _ => .ok ([], 0)
  | n :: r, l => if 1 ≤ n ∧ n ≤ 1024 then (match drawR (bitsN n.toNat) n l 0 with
      | none => .error 6
      | some (x, u) => comb [x] u (rowS r (l.drop u))) else .error 1
theorem rowS_bad (n : Int) (r l : List Int) (h : ¬ (1 ≤ n ∧ n ≤ 1024)) : rowS (n :: r) l = .error 1 := by rw [rowS, if_neg h]
theorem rowS_short (n : Int) (r l : List Int) (h : 1 ≤ n ∧ n ≤ 1024) (h2 : drawR (bitsN n.toNat) n l 0 = none) : rowS (n :: r) l = .error 6 := by rw [rowS, if_pos h, h2]
theorem rowS_ok (n : Int) (r l : List Int) (h : 1 ≤ n ∧ n ≤ 1024) (x : Int) (u : Nat) (h2 : drawR (bitsN n.toNat) n l 0 = some (x, u)) : rowS (n :: r) l = comb [x] u (rowS r (l.drop u)) := by rw [rowS, if_pos h, h2]
theorem rowS_len : ∀ (r l o : List Int) (a : Nat), rowS r l = .ok (o, a) → o.length = r.length ∧ a ≤ l.length
  | [], l, o, a, h => by
    rw [rowS] at h; simp only [Except.ok.injEq, Prod.mk.injEq] at h
    obtain ⟨rfl, rfl⟩ := h; exact ⟨rfl, by omega⟩
  | n :: r, l, o, a, h => by
    by_cases hn : 1 ≤ n ∧ n ≤ 1024
    · cases hd : drawR (bitsN n.toNat) n l 0 with
      | none => rw [rowS_short n r l hn hd] at h; cases h
      | some p =>
        obtain ⟨x, u⟩ := p
        rw [rowS_ok n r l hn x u hd] at h
        have hu := drawF_le _ _ _ _ _ _ _ hd
        cases hr : rowS r (l.drop u) with
        | error e => rw [hr] at h; cases h
        | ok q =>
          obtain ⟨o', b⟩ := q
          rw [hr] at h
          simp only [comb, Except.ok.injEq, Prod.mk.injEq] at h
          obtain ⟨rfl, rfl⟩ := h
          have := rowS_len r (l.drop u) o' b hr
          rw [List.length_drop] at this
          refine ⟨by simp; omega, by omega⟩
    · rw [rowS_bad n r l hn] at h; cases h
theorem rowS_cut : ∀ (k : Nat) (r l o : List Int) (u : Nat), rowS r l = .ok (o, u) → k ≤ r.length →
    ∃ a v b w, rowS (r.take k) l = .ok (a, v) ∧ v ≤ l.length ∧ rowS (r.drop k) (l.drop v) = .ok (b, w) ∧ u = v + w ∧ o = a ++ b
  | 0, r, l, o, u, h, _ => ⟨[], 0, o, u, by rw [List.take_zero]; rfl, by omega, by simpa using h, by omega, rfl⟩
  | k + 1, [], l, o, u, h, hk => by simp at hk
  | k + 1, n :: r, l, o, u, h, hk => by
    by_cases hn : 1 ≤ n ∧ n ≤ 1024
    · cases hd : drawR (bitsN n.toNat) n l 0 with
      | none => rw [rowS_short n r l hn hd] at h; cases h
      | some p =>
        obtain ⟨x, t⟩ := p
        rw [rowS_ok n r l hn x t hd] at h
        have hu := drawF_le _ _ _ _ _ _ _ hd
        cases hr : rowS r (l.drop t) with
        | error e => rw [hr] at h; cases h
        | ok q =>
          obtain ⟨o', c⟩ := q
          rw [hr] at h
          simp only [comb, Except.ok.injEq, Prod.mk.injEq] at h
          obtain ⟨rfl, rfl⟩ := h
          obtain ⟨a, v, b, w, h1, h2, h3, h4, h5⟩ := rowS_cut k r (l.drop t) o' c hr (by simpa using hk)
          rw [List.length_drop] at h2
          refine ⟨x :: a, t + v, b, w, ?_, by omega, ?_, by omega, by rw [h5]; rfl⟩
          · rw [List.take_succ_cons, rowS_ok n _ l hn x t hd, h1]; rfl
          · rw [List.drop_succ_cons]; rw [List.drop_drop] at h3; exact h3
    · rw [rowS_bad n r l hn] at h; cases h

def RowSaid (l most : List Int) (m : Nat) (w : World) (e : Ending) (w' : World) : Prop :=
  (∃ o u ad cp, rowS most l = .ok (o, u) ∧ e = .returned (.tuple #[.slice ad m cp, .int .i64 (u : Nat), .int .i64 0]) ∧ Fr w w' [⟨3, .slice ad m cp, ints o⟩]) ∨
  (∃ err : Int, (err = 1 ∨ err = 6) ∧ rowS most l = .error err ∧ e = .returned (.tuple #[.slice none 0 0, .int .i64 0, .int .i64 err]) ∧ Fr w w' [])

set_option maxRecDepth 100000 in
set_option maxHeartbeats 2000000 in
theorem tpRow (l most : List Int) (n m : Nat) (a b : Option Addr) (ca cb : Nat) (w : World) (h : Sa w a (byts l)) (h' : Sa w b (ints most)) (hn : l.length = n) (hm : most.length = m) (hp : Bit01 l) (hl : n ≤ 200) (hc : n ≤ ca) (hm2 : m ≤ 30) :
    Calls Try.prog 38 #[.slice a n ca, .slice b m cb] w (RowSaid l most m w) := by
  have HN := Lib.hid hn; have HM := Lib.hid hm; have HS := Lib.hid h; have HS' := Lib.hid h'; have HP := Lib.hid hp
  clear hn hm h h' hp
  have q : decide ((30 : Int) < (m : Int)) = false := decide_eq_false (by omega)
  go_enter Try.func38, Try.ntmps38
  go_wp2_with fail
  refine (tpChk l n _ _ _ HS.out HN.out HP.out hl).mono ?_; rintro e w' ⟨rfl, rfl⟩
  go_wp2_with fail
  clear q
  go_loopw [8, 9, 25] (fun o at' i wr => ∃ (k p : Nat) (ad : Option Addr) (cp : Nat) (out : List Int), k ≤ m ∧ p ≤ n ∧ i = .int .i64 k ∧ at' = .int .i64 p ∧ o = .slice ad k cp ∧ Hid (rowS most l = comb out p (rowS (most.drop k) (l.drop p))) ∧ Fr w wr [⟨3, .slice ad k cp, ints out⟩]) (fun _ _ i _ => m - (intOf i).toNat)
  case atStart => exact ⟨0, 0, none, 0, [], by omega, by omega, rfl, rfl, rfl, Lib.hid (by rw [comb_nil]; rfl), (Fr.start w).nilSlice _⟩
  case round =>
    obtain ⟨k, p, ad, cp, out, hk, hpn, rfl, rfl, rfl, HR, hfr⟩ := hrel
    by_cases hlt : k < m
    · obtain ⟨b', off, rfl, hb, hcell⟩ := (hfr.old HS'.out).int k (by rw [HM.out]; exact hlt)
      have hd := drop_nthT most k (by rw [HM.out]; exact hlt)
      obtain ⟨x, hx⟩ : ∃ x, nth most k = x := ⟨_, rfl⟩
      rw [hx] at hcell hd
      have hr := HR.out
      rw [hd] at hr
      have HR2 := Lib.hid hr
      have HF := Lib.hid hfr
      obtain ⟨ad', cp', hsl, hsa, hcp⟩ := slice_fromT 42 5 Try.underlying42 u8Elem u8Size a n ca p hpn hc (byts l) (by rw [byts_len, HN.out])
      have hs1 := hsa _ (hfr.old HS.out)
      rw [byts_drop] at hs1
      have HS1 := Lib.hid hs1
      have HL1 : Hid ((l.drop p).length = n - p) := Lib.hid (by rw [List.length_drop, HN.out])
      clear hx hd hr hfr HR hsa hs1
      have d1 : (0 : Int) ≤ (k : Int) := by omega
      have d2 : (k : Int) < (m : Int) := by omega
      go_wp2_with fail
      clear hsl
      refine (tpDraw (l.drop p) (n - p) _ _ x _ HS1.out HL1.out (HP.out.drop p) (by omega) hcp).mono ?_; rintro e w' ⟨rfl, he⟩
      rcases he with ⟨he, rfl⟩ | ⟨n1, n2, ⟨v, u, he, rfl⟩ | ⟨he, rfl⟩⟩
      · have HE : Hid (rowS most l = .error 1) := Lib.hid (by rw [HR2.out, rowS_bad _ _ _ he]; rfl)
        unfold ret3
        go_wp2_with fail
        go_ret3
        exact .inr ⟨1, .inl rfl, HE.out, rfl, HF.out.below⟩
      · have hu := drawF_le _ _ _ _ _ _ _ he
        have HE : Hid (rowS most l = comb (out ++ [v]) (p + u) (rowS (most.drop (k + 1)) (l.drop (p + u)))) := Lib.hid (by
          rw [HR2.out, rowS_ok _ _ _ ⟨n1, n2⟩ v u he, comb_comb, List.drop_drop])
        rw [HL1.out, Nat.zero_add] at hu
        clear he
        unfold ret3
        go_wp2_with (with_reducible refine at_slot 44 ?_; go_must (refine wpList_pushInt' rfl _ _ rfl ad k cp _ v _ _ rfl rfl HF.out rfl ?_ ?_); rotate_left; intro ad2 cp2 w2 hf2 hlt2)
        · exact ⟨⟨k + 1, p + u, ad2, cp2, out ++ [v], by omega, by omega, by simp, by simp, rfl, HE, hf2⟩, by simp only [intOf]; omega⟩
        · omega
      · have HE : Hid (rowS most l = .error 6) := Lib.hid (by rw [HR2.out, rowS_short _ _ _ ⟨n1, n2⟩ he]; rfl)
        unfold ret3
        go_wp2_with fail
        go_ret3
        exact .inr ⟨6, .inr rfl, HE.out, rfl, HF.out.below⟩
    · obtain rfl : k = m := by omega
      have HE : Hid (rowS most l = .ok (out, p)) := Lib.hid (by rw [HR.out, List.drop_of_length_le (by rw [HM.out]; omega)]; simp [rowS, comb])
      go_wp2_with fail
      go_ret3
      exact .inl ⟨out, p, ad, cp, HE.out, rfl, hfr⟩
end Go.Proofs.Ytnjnndodfdghbaa
