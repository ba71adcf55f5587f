/- The walks of the laws TapeOn and TapeRow. -/
import Derived.Test.YtnjabochagahjaaTape3
import Derived.Test.YtnjabochagahjaaSlEq2
namespace Go.Proofs.Ytnjabochagahjaa
open Go.RowKit

theorem cells2 (w : World) (x y : Value) (T : TypeId) : (w.alloc (.cells #[x, y] T)).cell? ⟨w.heap.size, 0, none⟩ = some x ∧ (w.alloc (.cells #[x, y] T)).cell? ⟨w.heap.size, 1, none⟩ = some y := by
  have h0 := cell_new w #[x, y] T 0
  have h1 := cell_new w #[x, y] T 1
  exact ⟨h0, h1⟩
theorem u8_bd {l : List Int} (h : ∀ x ∈ l, (Lit.int .u8 x).wf = true) : ∀ x ∈ l, 0 ≤ x ∧ x ≤ 255 := fun x hx => by
  have := h x hx
  simp [Lit.wf, go_sem] at this
  have e1 : IntKind.u8.min = 0 := by decide
  have e2 : IntKind.u8.max = 255 := by decide
  omega
theorem Fr.none' {w0 w : World} {L : List Ent} {i : Nat} {T : TypeId} {ad : Option Addr} {n cap : Nat} {xs : List Value} (h : Fr w0 w L) (he : L[i]? = some ⟨T, .slice ad n cap, xs⟩) : ad = .none → cap = 0 ∧ n = 0 := fun e => by
  have := (h.pick (List.mem_of_getElem? he)).none e
  exact ⟨this.2, this.1⟩
theorem bitsL_len (l : List Int) (t : Nat) : (bitsL l t).length ≤ t := by unfold bitsL; rw [List.length_map, List.length_take]; omega

set_option maxRecDepth 100000 in
set_option maxHeartbeats 4000000 in
theorem tapeOn_any (x y : List Int) (n m : Nat) (a b : Option Addr) (ca cb : Nat) (d : Int) (w : World) (h : Sa w a (byts x)) (hn : x.length = n) (hc : n ≤ ca) (hx : n ≤ maxLen) (hb : ∀ z ∈ x, 0 ≤ z ∧ z ≤ 255)
    (h' : Sa w b (byts y)) (hm : y.length = m) (hc' : m ≤ cb) (hx' : m ≤ maxLen) (hb' : ∀ z ∈ y, 0 ≤ z ∧ z ≤ 255) :
    Calls Try.prog 4 #[.slice a n ca, .int .i64 d, .slice b m cb] w fun e w' => e = .returned (.bool true) ∧ Below w.heap.size w w' := by
  have HN := Lib.hid hn; have HS := Lib.hid h; have HX := Lib.hid hx; have HB := Lib.hid hb
  have HN' := Lib.hid hm; have HS' := Lib.hid h'; have HX' := Lib.hid hx'; have HB' := Lib.hid hb'
  clear hn h hx hb hm h' hx' hb'
  go_enter Try.func4, Try.ntmps4
  go_wp2_with fail
  refine (tapes_any _).mono ?_; rintro e w1 ⟨rfl, hb⟩
  have F1 := (Fr.start w).keep hb
  clear hb
  go_wp2_with fail
  refine (bitsOf_any x n _ _ 100 _ (F1.old HS.out) HN.out hc HX.out (by omega) HB.out).mono ?_; rintro e w2 ⟨ad1, n1, cp1, rfl, hn1, hc1, hf⟩
  have F2 := F1.call hf
  clear F1 hf
  go_wp2_with fail
  refine (bitsOf_any y m _ _ 100 _ (F2.old HS'.out) HN'.out hc' HX'.out (by omega) HB'.out).mono ?_; rintro e w3 ⟨ad2, n2, cp2, rfl, hn2, hc2, hf⟩
  have F3 := F2.call hf
  clear F2 hf
  have P1 := Lib.hid (bitsL_01 x 100); have P2 := Lib.hid (bitsL_01 y 100)
  have m1 := bitsL_len x 100; have m2 := bitsL_len y 100
  rw [hn1] at m1
  rw [hn2] at m2
  have HN1 := Lib.hid hn1; have HN2 := Lib.hid hn2
  clear hn1 hn2
  generalize bitsL x 100 = lx at *
  generalize bitsL y 100 = ly at *
  go_wp2_with fail
  refine (tpDraw lx n1 _ _ d _ (F3.get 1 rfl) HN1.out P1.out (by omega) hc1).mono ?_; rintro e w' ⟨rfl, he⟩
  have done : ∀ v, v ≠ 0 → (v != (0 : Int)) = true := fun v hv => by rw [bne_iff_ne]; exact hv
  rcases he with ⟨he, rfl⟩ | ⟨d1, d2, ⟨v, u, he, rfl⟩ | ⟨he, rfl⟩⟩
  · unfold ret3
    go_wp2_with fail
    go_ret
    exact ⟨rfl, F3.bel⟩
  · have hu := drawF_le _ _ _ _ _ _ _ he
    rw [HN1.out, Nat.zero_add] at hu
    obtain ⟨k1, k2, _⟩ := bitsN_spec d.toNat (by omega)
    have key : drawR (bitsN d.toNat) d (lx.take u ++ ly) 0 = some (v, u) ∧ (u = 0 → d = 1) ∧ (0 < u → drawR (bitsN d.toNat) d (lx.take (u - 1)) 0 = none) := by
      rcases Nat.eq_zero_or_pos (bitsN d.toNat) with h0 | h0
      · rw [h0] at he k1 ⊢
        have hd1 : d = 1 := by simp at k1; omega
        have e0 : ∀ r, drawR 0 d r 0 = some (0, 0) := fun r => by rw [drawR_yes 0 d r 0 (by omega) (by simp [valL]; omega)]; simp [valL]
        rw [e0] at he
        simp only [Option.some.injEq, Prod.mk.injEq] at he
        obtain ⟨rfl, rfl⟩ := he
        exact ⟨e0 _, fun _ => hd1, fun h => absurd h (by omega)⟩
      · obtain ⟨e, h1, h2, h3, h4, h5, h6⟩ := draw_on _ d h0 ly lx.length lx 0 v u (Nat.le_refl _) he
        rw [Nat.zero_add] at h1
        subst h1
        exact ⟨h5, fun h => absurd h (by omega), fun _ => h6⟩
    obtain ⟨q1, q2, q3⟩ := key
    have Q1 := Lib.hid q1; have Q2 := Lib.hid q2; have Q3 := Lib.hid q3
    clear q1 q2 q3 k1 k2 he
    have u1 : (u : Int) ≤ (n1 : Int) := by omega
    have u2 : (u : Int) ≤ (cp1 : Int) := by omega
    have u3 : (0 : Int) ≤ (u : Int) := by omega
    unfold ret3
    have g1 : decide ((u : Int) < 0) = false := decide_eq_false (by omega)
    have g2 : decide (n1 < u) = false := decide_eq_false (by omega)
    go_wp2_with fail
    have F4 := F3.alloc (.cells #[.slice ad1 u cp1, .slice ad2 n2 cp2] 28)
    obtain ⟨c0, c1⟩ := cells2 w3 (.slice ad1 u cp1) (.slice ad2 n2 cp2) 28
    have s1 := (F4.get 1 rfl).take u
    rw [byts_take] at s1
    have l1 : (lx.take u).length = u := by rw [List.length_take, HN1.out]; omega
    have L1 := Lib.hid l1
    refine (catB (byts (lx.take u)) (byts ly) u n2 ad1 ad2 cp1 cp2 w3.heap.size _ s1 (F4.get 0 rfl) (by rw [byts_len, l1]) (by rw [byts_len, HN2.out]) (byts_one _) (byts_one _) (fun e => by have := (F4.none' (i := 1) rfl) e; omega) (F4.none' (i := 0) rfl) (by omega) (by simp) c0 c1).mono ?_
    rintro e w4 ⟨ad5, cp5, rfl, hf⟩
    rw [byts_app] at hf
    have F5 := F4.call hf
    clear F3 F4 hf c0 c1 s1 l1
    go_wp2_with fail
    refine (tpDraw (lx.take u ++ ly) (u + n2) _ _ d _ (F5.get 0 rfl) (by rw [List.length_append, L1.out, HN2.out]) ((P1.out.take u).app P2.out) (by omega) (F5.cap)).mono ?_; rintro e w' ⟨rfl, he⟩
    rcases he with ⟨he, _⟩ | ⟨_, _, ⟨v', u', he, rfl⟩ | ⟨he, _⟩⟩
    · exact absurd ⟨d1, d2⟩ he
    · rw [Q1.out] at he
      simp only [Option.some.injEq, Prod.mk.injEq] at he
      obtain ⟨rfl, rfl⟩ := he
      unfold ret3
      have r1 : (v != v) = false := by simp
      have r2 : ((u : Int) != (u : Int)) = false := by simp
      rcases Nat.eq_zero_or_pos u with h0 | h0
      · have := Q2.out h0
        subst this
        have e0 : ((u : Int) == 0) = true := by rw [h0]; rfl
        go_wp2_with fail
        go_ret
        exact ⟨rfl, F5.bel⟩
      · have e0 : ((u : Int) == 0) = false := by rw [beq_eq_false_iff_ne]; omega
        obtain ⟨t, ht⟩ : ∃ t : Nat, (u : Int) - 1 = (t : Int) := ⟨u - 1, by omega⟩
        have ht' : u - 1 = t := by omega
        have HT := Lib.hid ht'
        have t1 : (t : Int) ≤ (cp1 : Int) := by omega
        have t2 : t ≤ n1 := by omega
        clear ht'
        go_wp2_with fail
        have s2 := (F5.get 2 rfl).take t
        rw [byts_take] at s2
        refine (tpDraw (lx.take t) t _ _ d _ s2 (by rw [List.length_take, HN1.out]; omega) (P1.out.take t) (by omega) (by omega)).mono ?_; rintro e w' ⟨rfl, he⟩
        rcases he with ⟨he, _⟩ | ⟨_, _, ⟨v', u', he, _⟩ | ⟨_, rfl⟩⟩
        · exact absurd ⟨d1, d2⟩ he
        · have := Q3.out h0
          rw [HT.out] at this
          rw [this] at he; cases he
        · unfold ret3
          go_wp2_with fail
          go_ret
          exact ⟨rfl, F5.bel⟩
    · rw [Q1.out] at he; cases he
  · unfold ret3
    go_wp2_with fail
    go_ret
    exact ⟨rfl, F3.bel⟩
end Go.Proofs.Ytnjabochagahjaa
