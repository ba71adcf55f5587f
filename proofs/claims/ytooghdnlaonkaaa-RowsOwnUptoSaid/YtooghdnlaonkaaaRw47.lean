/- Several of my texts in one: WRows. -/
import Derived.Test.YtooghdnlaonkaaaRw42
import Derived.Test.YtooghdnlaonkaaaRw23
import Derived.Test.YtooghdnlaonkaaaRw44
import Derived.Test.YtooghdnlaonkaaaRw15
import Derived.Test.YtooghdnlaonkaaaRw22
import Derived.Test.YtooghdnlaonkaaaRw46
import Derived.Test.YtooghdnlaonkaaaRw39
import Derived.Test.YtooghdnlaonkaaaRw05
/- The walk of RowsOwn. -/
namespace Go.Proofs.Ytooghdnlaonkaaa
open Go.RowKit

theorem Fr.pcs {w0 w : World} {L : List Ent} {T : TypeId} {g k : Nat} {vs : List Value} (h : Fr w0 w L) (he : (⟨T, .slice (some ⟨g, 0, .none⟩) k k, vs⟩ : Ent) ∈ L) (h0 : 0 < vs.length) :
    g < w.heap.size ∧ ∀ i (hi : i < vs.length), w.cell? ⟨g, i, .none⟩ = some vs[i] := by
  obtain ⟨b, off, e, hb, hc⟩ := h.mem he h0
  cases e
  refine ⟨hb, fun i hi => ?_⟩
  have := hc i hi
  rw [Nat.zero_add] at this
  rw [this, List.getElem?_eq_getElem hi]
def pcV (p : Pc) : Value := .slice p.1 p.2.2.length p.2.1
theorem catRF (X : List Pc) (k g : Nat) {w0 w : World} {L : List Ent} (hF : Fr w0 w L) (he : (⟨48, .slice (some ⟨g, 0, none⟩) k k, X.map pcV⟩ : Ent) ∈ L) (hk : X.length = k) (h0 : 0 < k) (hk1 : k ≤ 1000) (hX : ∀ p ∈ X, PcOk w p) (T : Nat) (hT : totP X = T) (hl : T ≤ 4000000) :
    Calls Try.prog 26 #[.slice (some ⟨g, 0, none⟩) k k] w fun e w' => ∃ ad cp, e = .returned (.slice ad T cp) ∧ Fr w w' [⟨32, .slice ad T cp, flatP X⟩] := by
  obtain ⟨hg, hc⟩ := hF.pcs he (by rw [List.length_map]; omega)
  refine catR X k g w hk hk1 hX T hT hl hg (fun i hi => ?_)
  rw [hc i (by rw [List.length_map]; exact hi), List.getElem_map]; rfl
theorem nilOf {w0 w : World} {L : List Ent} {T : TypeId} {ad : Option Addr} {n cap : Nat} {xs : List Value} (h : Fr w0 w L) (he : (⟨T, .slice ad n cap, xs⟩ : Ent) ∈ L) (e : ad = .none) : cap = 0 ∧ n = 0 :=
  ((h.pick he).none e).symm
/-- a piece of rows -/
def rPc (a : Option Addr) (cap : Nat) (R : List Rw) : Pc := (a, cap, R.map rv)
theorem rPc_ok {w : World} {a : Option Addr} {cap : Nat} {R : List Rw} (h : Rm w a R) (hn : a = .none → cap = 0 ∧ R.length = 0) : PcOk w (rPc a cap R) :=
  ⟨h.out, rv_one R, fun e => ⟨(hn e).1, by show (R.map rv).length = 0; rw [List.length_map]; exact (hn e).2⟩⟩
theorem pcV_r {a : Option Addr} {cap n : Nat} {R : List Rw} (h : R.length = n) : pcV (rPc a cap R) = .slice a n cap := by
  unfold pcV rPc; simp [h]
theorem flat2 (a b : Option Addr) (c d : Nat) (R S : List Rw) : flatP [rPc a c R, rPc b d S] = (R ++ S).map rv := by simp [flatP, rPc]
theorem flat3 (a b x : Option Addr) (c d y : Nat) (R S U : List Rw) : flatP [rPc a c R, rPc b d S, rPc x y U] = (R ++ S ++ U).map rv := by simp [flatP, rPc]
theorem tot2 (a b : Option Addr) (c d : Nat) (R S : List Rw) : totP [rPc a c R, rPc b d S] = R.length + S.length := by simp [totP, rPc]
theorem tot3 (a b x : Option Addr) (c d y : Nat) (R S U : List Rw) : totP [rPc a c R, rPc b d S, rPc x y U] = R.length + S.length + U.length := by simp [totP, rPc]; omega
theorem pq_rows {w0 w : World} {adp adq : Option Addr} {np cp nq cq : Nat} {RP RQ : List Rw} {M : List Ent} (h : Fr w0 w (pqE adp np cp RP adq nq cq RQ [] ++ M)) :
    Fr w0 w ((RP ++ RQ).map re ++ (outE adp np cp RP :: outE adq nq cq RQ :: M)) := by
  refine h.perm ?_
  simp only [pqE, List.map_append, List.append_nil, List.cons_append, List.append_assoc]
  refine (List.Perm.cons _ (List.Perm.append_left _ List.perm_middle.symm)).trans ?_
  rw [← List.append_assoc, ← List.append_assoc]
  exact List.perm_middle.symm
theorem Fr.rmOf {w0 w : World} {L : List Ent} {ad : Option Addr} {n cap : Nat} {R : List Rw} (h : Fr w0 w L) (h1 : outE ad n cap R ∈ L) (h2 : ∀ p ∈ R, re p ∈ L) : Rm w ad R :=
  ⟨h.mem h1, fun p hp => h.mem (h2 p hp)⟩
theorem rowAt2 {w : World} {a : Option Addr} {R : List Rw} (h : Sa w a (R.map rv)) (i : Nat) (hi : i < R.length) : ∃ b off, a = some ⟨b, off, .none⟩ ∧ b < w.heap.size ∧ w.cell? ⟨b, off + i, .none⟩ = some (rv R[i]) := by
  obtain ⟨b, off, e, hb, hc⟩ := h.at i (by simpa using hi)
  exact ⟨b, off, e, hb, by rw [hc, List.getElem?_map, List.getElem?_eq_getElem hi]; rfl⟩
theorem spoilAt {w0 w : World} {M : List Ent} (R : List Rw) (k : Nat) (hk : k < R.length) (x : Option Addr) (y : Nat) (l : List Int) (t : Nat) (hp : R[k] = (x, y, l)) (ht : l.length = t) (h : Fr w0 w ((R.drop k).map re ++ M)) :
    Calls Try.prog 12 #[.slice x t y, .int .i64 (-7)] w fun e w' => (∃ u, e = .returned u) ∧ Fr w0 w' ((R.drop (k + 1)).map re ++ M) := by
  rw [List.drop_eq_getElem_cons hk, hp] at h
  have h : Fr w0 w (⟨3, .slice x l.length y, ints l⟩ :: ((R.drop (k + 1)).map re ++ M)) := h
  rw [ht] at h
  exact spoilI _ x t y _ (-7) h
theorem three {A B C : List Rw} {a b c x : Nat} (h1 : A.length = a) (h2 : B.length = b) (h3 : C.length = c) (hx : a + b + c = x) : (A ++ B ++ C).length = x := by simp [h1, h2, h3]; omega
theorem kept_perm {o l r : Ent} {A M : List Ent} {w0 w : World} (h : Fr w0 w (o :: l :: r :: (A ++ M))) : Fr w0 w (o :: ((A ++ [r]) ++ M)) := by
  have h1 := h.sub (M := o :: r :: (A ++ M)) (List.Sublist.cons_cons _ (List.sublist_cons_self _ _))
  refine h1.perm (List.Perm.cons _ ?_)
  rw [List.append_assoc]
  exact List.perm_middle.symm
theorem IsRow.opened {w : World} {a : Option Addr} {len cap : Nat} {zs : List Int} (h : IsRow .i64 w a len cap zs) : ∃ p : List Int, p.length = len ∧ Sa w a (ints p) ∧ len ≤ maxLen ∧ len ≤ cap :=
  ⟨_, h.sa.2.1, h.sa.1, h.sa.2.2.1, h.cap⟩
set_option maxRecDepth 100000 in
set_option maxHeartbeats 40000000 in
theorem rows_row (HTU : TurnsSaid) (HGU : GrpSaidU) (HLU : LstSaidU) (a : Option Addr) (n cap : Nat) (z : List Int) (ap : Option Addr) (lp kp : Nat) (aq : Option Addr) (lq kq : Nat) (m : Int) (al : Option Addr) (ll kl : Nat) (w : World)
    (h0 : IsRow .i64 w a n cap z) (hp : IsMatU w ap lp kp) (hq : IsMatU w aq lq kq) (hl : IsMatU w al ll kl) (sz : n ≤ 1048576) :
    Calls Try.prog 4 #[.slice a n cap, .agg #[.slice ap lp kp, .slice aq lq kq], .int .i64 m, .slice al ll kl] w fun e w' => e = .returned (.bool true) ∧ Below w.heap.size w w' := by
  obtain ⟨p, hpn, hsa, hmx, hcap⟩ := h0.opened
  obtain ⟨-, p1, p2, RX, hRX, hrx, hbx⟩ := hp
  obtain ⟨-, q1, q2, RY, hRY, hry, hby⟩ := hq
  obtain ⟨-, l1, l2, RL, hRL, hrl, hbl⟩ := hl
  obtain ⟨P, er, hno, hP10, hof⟩ := ofU p n a cap hpn hmx
  have HSA := Lib.hid hsa; have HPN := Lib.hid hpn
  have HP2 := Lib.hid p2; have HQ2 := Lib.hid q2; have HL2 := Lib.hid l2
  have HX := Lib.hid (And.intro hRX (And.intro hrx hbx))
  have HY := Lib.hid (And.intro hRY (And.intro hry hby))
  have HL := Lib.hid (And.intro hRL (And.intro hrl hbl))
  have HNO := Lib.hid hno; have HOF := Lib.hid hof; have HP10 := Lib.hid hP10
  have HT := Lib.hid HTU; have HG := Lib.hid HGU; have HLS := Lib.hid HLU
  clear h0 hpn hsa p2 q2 l2 hRX hrx hbx hRY hry hby hRL hrl hbl hno hof hP10 HTU HGU HLU
  obtain ⟨B, hB⟩ : ∃ B, w.heap.size = B := ⟨_, rfl⟩
  have HF := Lib.hid ((Fr.start w).rp (.slice ap lp kp) (.slice aq lq kq) B hB)
  go_enter Try.func4, Try.ntmps4
  go_wp2_with fail
  refine (tableaux_any _).mono ?_; rintro e w1 ⟨rfl, hb1⟩
  have HF1 := Lib.hid (HF.out.keep hb1)
  clear hb1 HF
  go_wp2_with fail
  refine (HT.out _).mono ?_; rintro e w2 ⟨rfl, hf2⟩
  have HF2 := Lib.hid (HF1.out.keep hf2.bel)
  clear hf2 HF1 HT
  go_wp2_with fail
  refine (grays_any _).mono ?_; rintro e w3 ⟨rfl, rfl⟩
  go_wp2_with fail
  refine (slCloneG p n a cap _ (HF2.out.old HSA.out) HPN.out (by omega)).mono ?_; rintro e w3 ⟨aw, cw, rfl, -, hf3⟩
  have HF3 := Lib.hid (HF2.out.call hf3)
  have HOF3 := Lib.hid (HOF.out w3 (HF3.out.old HSA.out))
  clear hf3 HF2
  go_wp2_with fail
  refine HOF3.out.mono ?_; rintro e w4 ⟨ad1, n1, c1, RA, ad2, n2, c2, RB, rfl, hRA, l1', l2', b1, b2, -, hf4⟩
  obtain ⟨C, hC⟩ : ∃ C, w4.heap.size = C := ⟨_, rfl⟩
  have hf5 := (((HF3.out.call hf4).rp (.slice ad1 n1 c1) (.slice ad2 n2 c2) C hC).new 48 #[.slice ad1 n1 c1, .slice ad2 n2 c2] [.slice ad1 n1 c1, .slice ad2 n2 c2] rfl 2 rfl (by omega))
  have eC : (w4.alloc (.cells #[.slice ad1 n1 c1, .slice ad2 n2 c2] 50)).heap.size = C + 1 := by simp [hC]
  rw [eC] at hf5
  have hx : [rPc ad1 c1 RA, rPc ad2 c2 RB].map pcV = [.slice ad1 n1 c1, .slice ad2 n2 c2] := by simp [pcV_r l1', pcV_r l2']
  have m1 : outE ad1 n1 c1 RA ∈ pqE ad1 n1 c1 RA ad2 n2 c2 RB [] := List.mem_cons_self
  have m2 : outE ad2 n2 c2 RB ∈ pqE ad1 n1 c1 RA ad2 n2 c2 RB [] := List.mem_cons_of_mem _ (List.mem_append_right _ List.mem_cons_self)
  have m3 : ∀ p ∈ RA, re p ∈ pqE ad1 n1 c1 RA ad2 n2 c2 RB [] := fun p hp => List.mem_cons_of_mem _ (List.mem_append_left _ (List.mem_map_of_mem hp))
  have m4 : ∀ p ∈ RB, re p ∈ pqE ad1 n1 c1 RA ad2 n2 c2 RB [] := fun p hp => List.mem_cons_of_mem _ (List.mem_append_right _ (List.mem_cons_of_mem _ (List.mem_append_left _ (List.mem_map_of_mem hp))))
  have up : ∀ {e : Ent} {x y : Ent} {A M : List Ent}, e ∈ A → e ∈ x :: y :: (A ++ M) := fun h => List.mem_cons_of_mem _ (List.mem_cons_of_mem _ (List.mem_append_left _ h))
  obtain ⟨N1, hN1⟩ : ∃ N1, n1 + n2 = N1 := ⟨_, rfl⟩
  have bN1 : N1 ≤ 20 := by omega
  have hcat := catRF [rPc ad1 c1 RA, rPc ad2 c2 RB] 2 (C + 1) hf5 (by rw [hx]; exact List.mem_cons_self) rfl (by omega) (by omega) (fun q hq => by
      simp only [List.mem_cons, List.not_mem_nil, or_false] at hq
      rcases hq with rfl | rfl
      · exact rPc_ok (hf5.rmOf (up m1) fun p hp => up (m3 p hp)) (fun e => by have := nilOf hf5 (up m1) e; omega)
      · exact rPc_ok (hf5.rmOf (up m2) fun p hp => up (m4 p hp)) (fun e => by have := nilOf hf5 (up m2) e; omega)) N1 (by rw [tot2]; omega) (by omega)
  rw [flat2] at hcat
  have HCAT := Lib.hid hcat
  have HF5 := Lib.hid hf5
  obtain ⟨R, hR⟩ : ∃ R, RA ++ RB = R := ⟨_, rfl⟩
  have HRL : Hid (R.length = N1) := Lib.hid (by rw [← hR, List.length_append]; omega)
  have HRE := Lib.hid hR
  have HRA : Hid (n1 = P.length) := Lib.hid (by rw [← l1', ← hRA, lsR_len])
  clear HOF3 hf4 eC HF3 hx m1 m2 m3 m4 up hcat hf5 hR hN1 hRA l1' l2' b1 b2
  go_wp2_with fail
  refine HCAT.out.mono ?_; rintro e w5 ⟨adc, cpc, rfl, hfc⟩
  obtain ⟨M1, HF6, hcatm, hbm, hcm, hwm⟩ : ∃ M1, Hid (Fr w w5 ((R.drop 0).map re ++ M1)) ∧ Hid ((⟨32, .slice adc N1 cpc, R.map rv⟩ : Ent) ∈ M1) ∧ Hid (eP B (.slice ap lp kp) (.slice aq lq kq) ∈ M1) ∧ Hid (eP C (.slice ad1 n1 c1) (.slice ad2 n2 c2) ∈ M1) ∧ Hid ((⟨3, .slice aw n cw, ints p⟩ : Ent) ∈ M1) := by
    have h1 := HF5.out.call hfc
    rw [HRE.out] at h1
    have h2 := pq_rows (h1.perm (List.perm_append_comm_assoc [⟨32, .slice adc N1 cpc, R.map rv⟩, ⟨48, .slice (some ⟨C + 1, 0, .none⟩) 2 2, [.slice ad1 n1 c1, .slice ad2 n2 c2]⟩, eP C (.slice ad1 n1 c1) (.slice ad2 n2 c2)] (pqE ad1 n1 c1 RA ad2 n2 c2 RB []) _))
    rw [HRE.out] at h2
    exact ⟨_, Lib.hid h2, Lib.hid (by simp), Lib.hid (by simp), Lib.hid (by simp), Lib.hid (by simp)⟩
  clear hfc HF5 HCAT HRE hC
  go_wp2_with fail
  go_loopw [55] (fun i wr => ∃ k : Nat, k ≤ N1 ∧ i = .int .i64 k ∧ Hid (Fr w wr ((R.drop k).map re ++ M1))) (fun i _ => N1 - (intOf i).toNat)
  case atStart => exact ⟨0, by omega, rfl, HF6⟩
  case round =>
    clear HF6
    obtain ⟨k, hk, rfl, HF7⟩ := hrel
    by_cases hlt : k < N1
    · have hkR : k < R.length := by rw [HRL.out]; exact hlt
      obtain ⟨b7, o7, rfl, -, x7⟩ := rowAt2 (HF7.out.mem (List.mem_append_right _ hcatm.out)) k hkR
      obtain ⟨⟨x, y, l⟩, hp⟩ : ∃ p : Rw, R[k] = p := ⟨_, rfl⟩
      obtain ⟨t, ht⟩ : ∃ t, l.length = t := ⟨_, rfl⟩
      have HS := Lib.hid (spoilAt R k hkR x y l t hp ht HF7.out)
      rw [hp] at x7
      simp only [rv, ht] at x7
      have d1 : (0 : Int) ≤ (k : Int) := by omega
      have d2 : (k : Int) < (N1 : Int) := by omega
      clear hp ht hkR
      go_wp2_with fail
      refine HS.out.mono ?_; rintro e w8 ⟨⟨u8, rfl⟩, hf8⟩
      have HF8 := Lib.hid hf8
      clear hf8 HS
      go_wp2_with fail
      go_roundw
      case rel => exact ⟨k + 1, by omega, by go_num, HF8⟩
      case measure => simp only [intOf]; omega
    · have HF8 : Hid (Fr w wr M1) := Lib.hid (by
        have h := HF7.out
        rw [List.drop_eq_nil_of_le (by rw [HRL.out]; omega)] at h
        exact h)
      obtain rfl : k = N1 := by omega
      have HOF8 := Lib.hid (HOF.out wr (HF8.out.old HSA.out))
      clear HF7 hcatm HRL hlt
      go_wp2_with fail
      refine HOF8.out.mono ?_; rintro e w6 ⟨ad3, n3, c3, RP, ad4, n4, c4, RQ, rfl, hRP, l3, l4, b3, b4, b5, hf6⟩
      obtain ⟨D, hD⟩ : ∃ D, w6.heap.size = D := ⟨_, rfl⟩
      have hf7 := (HF8.out.call hf6).rp (.slice ad3 n3 c3) (.slice ad4 n4 c4) D hD
      have eD : (w6.alloc (.cells #[.slice ad3 n3 c3, .slice ad4 n4 c4] 50)).heap.size = D + 1 := by simp [hD]
      obtain ⟨M2, HF9, hdm, hopm, hrpm, hbm2, hcm2, hwm2⟩ : ∃ M2, Hid (Fr w (w6.alloc (.cells #[.slice ad3 n3 c3, .slice ad4 n4 c4] 50)) M2) ∧ Hid (eP D (.slice ad3 n3 c3) (.slice ad4 n4 c4) ∈ M2) ∧ Hid (outE ad3 n3 c3 RP ∈ M2) ∧ Hid (∀ p ∈ RP, re p ∈ M2) ∧ Hid (eP B (.slice ap lp kp) (.slice aq lq kq) ∈ M2) ∧ Hid (eP C (.slice ad1 n1 c1) (.slice ad2 n2 c2) ∈ M2) ∧ Hid ((⟨3, .slice aw n cw, ints p⟩ : Ent) ∈ M2) :=
        ⟨_, Lib.hid hf7, Lib.hid List.mem_cons_self, Lib.hid (List.mem_cons_of_mem _ (List.mem_append_left _ List.mem_cons_self)), Lib.hid (fun p hp => List.mem_cons_of_mem _ (List.mem_append_left _ (List.mem_cons_of_mem _ (List.mem_append_left _ (List.mem_map_of_mem hp))))), Lib.hid (List.mem_cons_of_mem _ (List.mem_append_right _ hbm.out)), Lib.hid (List.mem_cons_of_mem _ (List.mem_append_right _ hcm.out)), Lib.hid (List.mem_cons_of_mem _ (List.mem_append_right _ hwm.out))⟩
      obtain ⟨x0, x1, -, -, -, -⟩ := HF9.out.rpM hbm2.out
      obtain ⟨N2, hN2⟩ : ∃ N2, lp + lq + ll = N2 := ⟨_, rfl⟩
      have bN2 : N2 ≤ 3145728 := by omega
      have HN2 := Lib.hid hN2
      have hx3 : [rPc ap kp RX, rPc aq kq RY, rPc al kl RL].map pcV = [.slice ap lp kp, .slice aq lq kq, .slice al ll kl] := by simp [pcV_r HX.out.1, pcV_r HY.out.1, pcV_r HL.out.1]
      obtain ⟨R2, hR2⟩ : ∃ R2, RX ++ RY ++ RL = R2 := ⟨_, rfl⟩
      have HR2L : Hid (R2.length = N2) := Lib.hid (by rw [← hR2]; exact three HX.out.1 HY.out.1 HL.out.1 hN2)
      have HR2 : Hid (∀ p ∈ R2, Sa w p.1 (ints p.2.2) ∧ p.2.2.length ≤ 1048576) := Lib.hid (fun p hp => by
        rw [← hR2] at hp
        rcases List.mem_append.1 hp with hp | hp
        · rcases List.mem_append.1 hp with hp | hp
          · exact ⟨HX.out.2.1.row p hp, HX.out.2.2 p hp⟩
          · exact ⟨HY.out.2.1.row p hp, HY.out.2.2 p hp⟩
        · exact ⟨HL.out.2.1.row p hp, HL.out.2.2 p hp⟩)
      have HCT : Hid (∀ (W : World) (L : List Ent) (G : Nat), Fr w W L → (⟨48, .slice (some ⟨G, 0, .none⟩) 3 3, [.slice ap lp kp, .slice aq lq kq, .slice al ll kl]⟩ : Ent) ∈ L →
          Calls Try.prog 26 #[.slice (some ⟨G, 0, none⟩) 3 3] W fun e w' => ∃ ad cp, e = .returned (.slice ad N2 cp) ∧ Fr W w' [⟨32, .slice ad N2 cp, R2.map rv⟩]) := Lib.hid (fun W L G hF hm => by
        have h := catRF [rPc ap kp RX, rPc aq kq RY, rPc al kl RL] 3 G hF (by rw [hx3]; exact hm) rfl (by omega) (by omega) (fun q hq => by
          simp only [List.mem_cons, List.not_mem_nil, or_false] at hq
          rcases hq with rfl | rfl | rfl
          · exact rPc_ok (HX.out.2.1.keep hF.bel) (fun e => by have := HP2.out e; have := HX.out.1; omega)
          · exact rPc_ok (HY.out.2.1.keep hF.bel) (fun e => by have := HQ2.out e; have := HY.out.1; omega)
          · exact rPc_ok (HL.out.2.1.keep hF.bel) (fun e => by have := HL2.out e; have := HL.out.1; omega)) N2 (by rw [tot3]; have := HX.out.1; have := HY.out.1; have := HL.out.1; omega) (by omega)
        rw [flat3, hR2] at h
        exact h)
      have hf10 := HF9.out.new 48 #[.slice ap lp kp, .slice aq lq kq, .slice al ll kl] [.slice ap lp kp, .slice aq lq kq, .slice al ll kl] rfl 3 rfl (by omega)
      rw [eD] at hf10
      have HCAT := Lib.hid (HCT.out _ _ _ hf10 List.mem_cons_self)
      have HF10 := Lib.hid hf10
      have HPR := Lib.hid (And.intro hRP (And.intro l3 (And.intro b3 b5)))
      clear HOF8 HOF hf6 hf7 hf10 eD HF8 HF9 hN2 hx3 hR2 hRP l3 l4 b3 b4 b5 hbm hcm hwm
      go_wp2_with fail
      refine HCAT.out.mono ?_; rintro e w7 ⟨adc, cpc, rfl, hfc⟩
      obtain ⟨M3, HF11, hcatm, hdm3, hopm3, hrpm3, hbm3, hcm3, hwm3⟩ : ∃ M3, Hid (Fr w w7 M3) ∧ Hid ((⟨32, .slice adc N2 cpc, R2.map rv⟩ : Ent) ∈ M3) ∧ Hid (eP D (.slice ad3 n3 c3) (.slice ad4 n4 c4) ∈ M3) ∧ Hid (outE ad3 n3 c3 RP ∈ M3) ∧ Hid (∀ p ∈ RP, re p ∈ M3) ∧ Hid (eP B (.slice ap lp kp) (.slice aq lq kq) ∈ M3) ∧ Hid (eP C (.slice ad1 n1 c1) (.slice ad2 n2 c2) ∈ M3) ∧ Hid ((⟨3, .slice aw n cw, ints p⟩ : Ent) ∈ M3) :=
        ⟨_, Lib.hid (HF10.out.call hfc), Lib.hid List.mem_cons_self, Lib.hid (List.mem_cons_of_mem _ (List.mem_cons_of_mem _ hdm.out)), Lib.hid (List.mem_cons_of_mem _ (List.mem_cons_of_mem _ hopm.out)), Lib.hid (fun p hp => List.mem_cons_of_mem _ (List.mem_cons_of_mem _ (hrpm.out p hp))), Lib.hid (List.mem_cons_of_mem _ (List.mem_cons_of_mem _ hbm2.out)), Lib.hid (List.mem_cons_of_mem _ (List.mem_cons_of_mem _ hcm2.out)), Lib.hid (List.mem_cons_of_mem _ (List.mem_cons_of_mem _ hwm2.out))⟩
      have HF12 : Hid (Fr w w7 (outE .none 0 0 [] :: (([] : List Rw).map re ++ M3))) := Lib.hid (HF11.out.nilSlice _)
      clear hfc HF10 HF11 HCAT x0 x1 hdm hopm hrpm hbm2 hcm2 hwm2 hD
      go_wp2_with fail
      rename_i wOld
      go_loopw [16, 75] (fun o i wr => ∃ (k : Nat) (adk : Option Addr) (cpk : Nat) (K : List Rw), k ≤ N2 ∧ i = .int .i64 k ∧ o = .slice adk k cpk ∧ Hid (lsR K = (lsR R2).take k) ∧ Hid (Fr w wr (outE adk k cpk K :: (K.map re ++ M3)))) (fun _ i _ => N2 - (intOf i).toNat)
      case atStart => exact ⟨0, .none, 0, [], by omega, rfl, rfl, Lib.hid rfl, HF12⟩
      case round =>
        clear HF12
        obtain ⟨k, adk, cpk, K, hk, rfl, rfl, HK, HF13⟩ := hrel
        by_cases hlt : k < N2
        · have hkR : k < R2.length := by rw [HR2L.out]; exact hlt
          obtain ⟨b7, o7, rfl, -, x7⟩ := rowAt2 (HF13.out.mem (List.mem_cons_of_mem _ (List.mem_append_right _ hcatm.out))) k hkR
          obtain ⟨r1, r2⟩ := HR2.out R2[k] (List.getElem_mem hkR)
          have htk : (lsR R2).take (k + 1) = (lsR R2).take k ++ [R2[k].2.2] := by
            rw [List.take_succ_eq_append_getElem (by rw [lsR_len]; exact hkR), lsR_get R2 k hkR]
          obtain ⟨⟨x, y, l⟩, hp⟩ : ∃ p : Rw, R2[k] = p := ⟨_, rfl⟩
          obtain ⟨t, ht⟩ : ∃ t, l.length = t := ⟨_, rfl⟩
          rw [hp] at x7 r1 r2 htk
          simp only [rv, ht] at x7
          simp only at r1 r2 htk
          rw [ht] at r2
          have HCL := Lib.hid (slCloneG l t x y wr (HF13.out.old r1) ht (by omega))
          have HT1 := Lib.hid ht; have HTK := Lib.hid htk
          have d1 : (0 : Int) ≤ (k : Int) := by omega
          have d2 : (k : Int) < (N2 : Int) := by omega
          clear hp ht hkR r1 htk
          go_wp2_with fail
          refine HCL.out.mono ?_; rintro e w8 ⟨a8, c8, rfl, -, hf8⟩
          have HF14 := Lib.hid ((HF13.out.call hf8).swap.new 32 #[.slice a8 t c8] [.slice a8 t c8] rfl 1 rfl (by omega)).swap
          clear hf8 HCL HF13
          go_wp2_with (with_reducible refine at_slot 83 ?_; go_must (refine wpList_pushAllB rfl _ _ 48 32 (.slice none 0 0) 24 Try.underlying48 slsInfo rfl (by omega) rfl adk (some ⟨w8.heap.size, 0, .none⟩) k cpk 1 1 (K.map rv) [.slice a8 t c8] _ rfl HF14.out rfl (HF14.out.mem (List.mem_cons_of_mem _ List.mem_cons_self)) rfl (fun e => by cases e) (by simp [Value.oneCell']) (by omega) ?_); intro ad9 cp9 w9 hf9 hsz9)
          have HF15 : Hid (Fr w w9 (outE ad9 (k + 1) cp9 (K ++ [((a8, c8, l) : Rw)]) :: ((K ++ [((a8, c8, l) : Rw)]).map re ++ M3))) := Lib.hid (by
            have h := kept_perm hf9
            have e1 : (⟨3, .slice a8 t c8, ints l⟩ : Ent) = re ((a8, c8, l) : Rw) := by unfold re rv; rw [show ((a8, c8, l) : Rw).2.2.length = t from HT1.out]
            have e2 : K.map rv ++ [.slice a8 t c8] = (K ++ [((a8, c8, l) : Rw)]).map rv := by rw [List.map_append]; simp only [List.map_cons, List.map_nil, rv, HT1.out]
            rw [e1, e2] at h
            rw [List.map_append]
            exact h)
          clear hf9
          go_roundw
          case rel => exact ⟨k + 1, ad9, cp9, K ++ [((a8, c8, l) : Rw)], by omega, by go_num, rfl, Lib.hid (by rw [HTK.out, ← HK.out]; simp [lsR]), HF15⟩
          case measure => simp only [intOf]; omega
        · obtain rfl : k = N2 := by omega
          have HKK : Hid (lsR K = lsR R2) := Lib.hid (by rw [HK.out, List.take_of_length_le (by rw [lsR_len, HR2L.out]; omega)])
          obtain ⟨M4, HF16, hko, hkr, hdm4, hopm4, hrpm4, hbm4, hcm4, hwm4⟩ : ∃ M4, Hid (Fr w wr M4) ∧ Hid (outE adk k cpk K ∈ M4) ∧ Hid (∀ q ∈ K, re q ∈ M4) ∧ Hid (eP D (.slice ad3 n3 c3) (.slice ad4 n4 c4) ∈ M4) ∧ Hid (outE ad3 n3 c3 RP ∈ M4) ∧ Hid (∀ p ∈ RP, re p ∈ M4) ∧ Hid (eP B (.slice ap lp kp) (.slice aq lq kq) ∈ M4) ∧ Hid (eP C (.slice ad1 n1 c1) (.slice ad2 n2 c2) ∈ M4) ∧ Hid ((⟨3, .slice aw n cw, ints p⟩ : Ent) ∈ M4) := by
            have up : ∀ {e : Ent} {o : Ent} {A : List Ent}, e ∈ M3 → e ∈ o :: (A ++ M3) := fun h => List.mem_cons_of_mem _ (List.mem_append_right _ h)
            exact ⟨_, HF13, Lib.hid List.mem_cons_self, Lib.hid (fun q hq => List.mem_cons_of_mem _ (List.mem_append_left _ (List.mem_map_of_mem hq))), Lib.hid (up hdm3.out), Lib.hid (up hopm3.out), Lib.hid (fun q hq => up (hrpm3.out q hq)), Lib.hid (up hbm3.out), Lib.hid (up hcm3.out), Lib.hid (up hwm3.out)⟩
          obtain ⟨x0, x1, -, -, -, -⟩ := HF16.out.rpM hbm4.out
          have HBK := Lib.hid (backU RX RY lp lq ap aq kp kq wr (HX.out.2.1.keep HF16.out.bel) (HY.out.2.1.keep HF16.out.bel) HX.out.1 HY.out.1 p1 q1 HX.out.2.2 HY.out.2.2)
          clear HF13 hcatm hdm3 hopm3 hrpm3 hbm3 hcm3 hwm3 HK hlt
          go_wp2_with fail
          refine HBK.out.mono ?_; rintro e w8 ⟨a8, n8, c8, e8, xs8, rfl, hf8⟩
          have HS8 := Lib.hid (spoilI 3 a8 n8 c8 xs8 (-7) (HF16.out.call hf8))
          clear hf8 HBK HF16 x0 x1
          go_wp2_with fail
          refine HS8.out.mono ?_; rintro e w9 ⟨⟨u9, rfl⟩, hf9⟩
          have HF17 := Lib.hid hf9
          have HGR := Lib.hid (HG.out m RL ll al kl w9 (HL.out.2.1.keep hf9.bel) HL.out.1 (by unfold maxLen; omega) (fun q hq => by have := HL.out.2.2 q hq; unfold maxLen; omega))
          clear hf9 HS8 HG
          go_wp2_with fail
          refine HGR.out.mono ?_; rintro e w10 ⟨ag, ng, cg, eg, RG, rfl, hng, bng, hf10⟩
          have HNG := Lib.hid hng
          obtain ⟨M5, HF18, hgo, hm45⟩ : ∃ M5, Hid (Fr w w10 ((RG.drop 0).map re ++ M5)) ∧ Hid (outE ag ng cg RG ∈ M5) ∧ Hid (M4.Sublist M5) :=
            ⟨outE ag ng cg RG :: M4, Lib.hid ((HF17.out.call hf10).perm List.perm_middle.symm), Lib.hid List.mem_cons_self, Lib.hid (List.sublist_cons_self _ _)⟩
          clear hf10 HGR HF17 hng
          go_wp2_with fail
          rename_i wOld2
          go_loopw [100] (fun i wr => ∃ k : Nat, k ≤ ng ∧ i = .int .i64 k ∧ Hid (Fr w wr ((RG.drop k).map re ++ M5))) (fun i _ => ng - (intOf i).toNat)
          case atStart => exact ⟨0, by omega, rfl, HF18⟩
          case round =>
            clear HF18
            obtain ⟨j, hj, rfl, HF19⟩ := hrel
            by_cases hlt : j < ng
            · have hkR : j < RG.length := by rw [HNG.out]; exact hlt
              obtain ⟨b7, o7, rfl, -, x7⟩ := rowAt2 (HF19.out.mem (List.mem_append_right _ hgo.out)) j hkR
              obtain ⟨⟨x, y, l⟩, hp⟩ : ∃ p : Rw, RG[j] = p := ⟨_, rfl⟩
              obtain ⟨t, ht⟩ : ∃ t, l.length = t := ⟨_, rfl⟩
              have HS := Lib.hid (spoilAt RG j hkR x y l t hp ht HF19.out)
              rw [hp] at x7
              simp only [rv, ht] at x7
              have d1 : (0 : Int) ≤ (j : Int) := by omega
              have d2 : (j : Int) < (ng : Int) := by omega
              clear hp ht hkR
              go_wp2_with fail
              refine HS.out.mono ?_; rintro e w11 ⟨⟨u11, rfl⟩, hf11⟩
              have HF20 := Lib.hid hf11
              clear hf11 HS
              go_wp2_with fail
              go_roundw
              case rel => exact ⟨j + 1, by omega, by go_num, HF20⟩
              case measure => simp only [intOf]; omega
            · have HF20 : Hid (Fr w wr M4) := Lib.hid (by
                have h := HF19.out
                rw [List.drop_eq_nil_of_le (by rw [HNG.out]; omega)] at h
                exact Fr.sub h hm45.out)
              obtain rfl : j = ng := by omega
              have HLT := Lib.hid (HLS.out m RL ll al kl p n a cap wr (HL.out.2.1.keep HF20.out.bel) HL.out.1 (by unfold maxLen; omega) (fun q hq => by have := HL.out.2.2 q hq; unfold maxLen; omega) (HF20.out.old HSA.out) HPN.out hmx hcap)
              clear HF19 hgo HNG hlt hm45 HLS
              go_wp2_with fail
              refine HLT.out.mono ?_; rintro e w12 ⟨a12, n12, c12, e12, xs12, rfl, hf12⟩
              have HS12 := Lib.hid (spoilI 3 a12 n12 c12 xs12 (-7) (HF20.out.call hf12))
              clear hf12 HLT HF20
              go_wp2_with fail
              refine HS12.out.mono ?_; rintro e w13 ⟨⟨u13, rfl⟩, hf13⟩
              have HF21 := Lib.hid hf13
              clear hf13 HS12
              go_wp2_with fail
              refine (walkU m w13).mono ?_; rintro e w14 ⟨a14, n14, c14, e14, xs14, rfl, hf14⟩
              have HS14 := Lib.hid (spoilU 64 a14 n14 c14 xs14 7 (HF21.out.call hf14))
              clear hf14 HF21
              go_wp2_with fail
              refine HS14.out.mono ?_; rintro e w15 ⟨⟨u15, rfl⟩, hf15⟩
              obtain ⟨E, hE⟩ : ∃ E, w15.heap.size = E := ⟨_, rfl⟩
              obtain ⟨x0, x1, -, -, -, -⟩ := hf15.rpM hbm4.out
              have hf16 := hf15.new 48 #[.slice ap lp kp, .slice aq lq kq, .slice al ll kl] [.slice ap lp kp, .slice aq lq kq, .slice al ll kl] rfl 3 rfl (by omega)
              rw [hE] at hf16
              have HCAT := Lib.hid (HCT.out _ _ _ hf16 List.mem_cons_self)
              have HF22 := Lib.hid hf16
              clear hf15 hf16 HS14
              go_wp2_with fail
              refine HCAT.out.mono ?_; rintro e w16 ⟨adc2, cpc2, rfl, hfc2⟩
              obtain ⟨M6, HF23, hcatm2, hm46⟩ : ∃ M6, Hid (Fr w w16 M6) ∧ Hid ((⟨32, .slice adc2 k cpc2, R2.map rv⟩ : Ent) ∈ M6) ∧ Hid (∀ e ∈ M4, e ∈ M6) :=
                ⟨_, Lib.hid (HF22.out.call hfc2), Lib.hid List.mem_cons_self, Lib.hid (fun e he => List.mem_cons_of_mem _ (List.mem_cons_of_mem _ he))⟩
              clear hfc2 HF22 HCAT x0 x1 hE
              go_wp2_with fail
              rename_i wOld3
              go_loopw [131] (fun i wr => ∃ q : Nat, q ≤ k ∧ i = .int .i64 q ∧ Hid (Fr w wr M6)) (fun i _ => k - (intOf i).toNat)
              case atStart => exact ⟨0, by omega, rfl, HF23⟩
              case round =>
                clear HF23
                obtain ⟨q, hq, rfl, HF24⟩ := hrel
                by_cases hlt : q < k
                · have hkR : q < R2.length := by rw [HR2L.out]; exact hlt
                  have hkK : q < K.length := by rw [← lsR_len, HKK.out, lsR_len]; exact hkR
                  obtain ⟨b7, o7, rfl, -, x7⟩ := rowAt2 (HF24.out.mem hcatm2.out) q hkR
                  obtain ⟨b8, o8, rfl, -, x8⟩ := rowAt2 (HF24.out.mem (hm46.out _ hko.out)) q hkK
                  have s8 := HF24.out.mem (hm46.out _ (hkr.out _ (List.getElem_mem hkK)))
                  have he : K[q].2.2 = R2[q].2.2 := by rw [← lsR_get K q hkK, ← lsR_get R2 q hkR]; simp only [HKK.out]
                  obtain ⟨r1, r2⟩ := HR2.out R2[q] (List.getElem_mem hkR)
                  obtain ⟨⟨x, y, l⟩, hp⟩ : ∃ p : Rw, R2[q] = p := ⟨_, rfl⟩
                  obtain ⟨⟨x', y', l'⟩, hp'⟩ : ∃ p : Rw, K[q] = p := ⟨_, rfl⟩
                  obtain ⟨t, ht⟩ : ∃ t, l.length = t := ⟨_, rfl⟩
                  rw [hp] at x7 r1 r2 he
                  rw [hp'] at x8 s8 he
                  have he : l' = l := he
                  subst he
                  simp only [rv, ht] at x7 x8
                  simp only at r1 r2 s8
                  rw [ht] at r2
                  have HE := Lib.hid (slEqIB l' t x x' y y' wr (HF24.out.old r1) s8 ht (by unfold maxLen; omega))
                  have d1 : (0 : Int) ≤ (q : Int) := by omega
                  have d2 : (q : Int) < (k : Int) := by omega
                  clear hp hp' ht hkR hkK r1 s8
                  go_wp2_with fail
                  refine HE.out.mono ?_; rintro e w17 ⟨rfl, hf17⟩
                  have HF25 := Lib.hid (HF24.out.keep hf17.bel)
                  clear hf17 HE HF24
                  go_wp2_with fail
                  go_roundw
                  case rel => exact ⟨q + 1, by omega, by go_num, HF25⟩
                  case measure => simp only [intOf]; omega
                · obtain rfl : q = k := by omega
                  have HE := Lib.hid (slEqIB p n a aw cap cw wr (HF24.out.old HSA.out) (HF24.out.mem (hm46.out _ hwm4.out)) HPN.out hmx)
                  go_wp2_with fail
                  refine HE.out.mono ?_; rintro e w18 ⟨rfl, hf18⟩
                  have HF26 := Lib.hid (HF24.out.keep hf18.bel)
                  obtain ⟨y0, y1, -, -, -, -⟩ := HF26.out.rpM (hm46.out _ hcm4.out)
                  obtain ⟨y2, y3, -, -, -, -⟩ := HF26.out.rpM (hm46.out _ hdm4.out)
                  obtain rfl : n3 = n1 := by rw [HRA.out, ← HPR.out.2.1, ← lsR_len, HPR.out.1]
                  have g1 : (er == er) = true := beq_self_eq_true _
                  have g2 : ((n3 : Int) == (n3 : Int)) = true := beq_self_eq_true _
                  have HCN := Lib.hid (ctnNo RP n3 ad3 c3 w18 (HF26.out.rmOf (hm46.out _ hopm4.out) (fun p hp => hm46.out _ (hrpm4.out p hp))) HPR.out.2.1 (by have := HPR.out.2.2.1; omega) (fun p hp => by have := HPR.out.2.2.2 p hp; omega) (fun p hp => HNO.out _ (by rw [← HPR.out.1]; exact List.mem_map_of_mem (f := fun p : Rw => p.2.2) hp)))
                  clear hf18 HE HF24 hlt
                  go_wp2_with fail
                  refine HCN.out.mono ?_; rintro e w19 ⟨rfl, hf19⟩
                  have HF27 := Lib.hid (HF26.out.keep hf19.bel)
                  clear hf19 HCN
                  go_wp2_with fail
                  go_ret
                  exact ⟨rfl, HF27.out.bel⟩
end Go.Proofs.Ytooghdnlaonkaaa
