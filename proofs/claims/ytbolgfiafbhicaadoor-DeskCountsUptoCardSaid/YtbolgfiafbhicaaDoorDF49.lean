/- Several of my texts in one: Dsk7. -/
import Derived.Test.YtbolgfiafbhicaaDoorDF42
import Derived.Test.YtbolgfiafbhicaaDoorDF20
import Derived.Test.YtbolgfiafbhicaaDoorDF47
import Derived.Test.YtbolgfiafbhicaaDoorDF41
import Derived.Test.YtbolgfiafbhicaaDoorDF19
import Derived.Deep.CutRange
import Derived.Deep.CutBlock
/- Contract of deed. -/
namespace Go.Proofs.YtbolgfiafbhicaaDoor
open Go.RowKit

/-- the desk's own block; words in a block of their own -/
def eDk (D H : Nat) : Big := ⟨35, 1, 1, .slice (some ⟨D, 0, none⟩) 1 1, [.pointer (some ⟨H, 0, none⟩)]⟩
def eWd (a : Option Addr) (n cap : Nat) (l : List ByteArray) : Big := ⟨9, 1, n, .slice a n cap, strV l⟩
def DeedSaid (w0 : World) (H : Nat) (s : HSt) (B : List Big) (l : List ByteArray) (e : Ending) (w' : World) : Prop :=
  (kindB (wd l 0) = 0 ∧ e = .returned (.tuple #[.string emB, .bool false]) ∧ Hw w0 w' H s B) ∨
  (kindB (wd l 0) ≠ 0 ∧ (l.length : Int) ≠ wantB (wd l 0) ∧ e = .panicked (refL 10) ∧ Hw w0 w' H s B) ∨
  (kindB (wd l 0) ≠ 0 ∧ (l.length : Int) = wantB (wd l 0) ∧ Hw w0 w' H (deedR s (kindB (wd l 0)) l).1 B ∧
    ((∃ b, (deedR s (kindB (wd l 0)) l).2 = .ok b ∧ e = .returned (.tuple #[.string b, .bool true])) ∨ (∃ er, (deedR s (kindB (wd l 0)) l).2 = .error er ∧ e = .panicked (refL er))))
def DeedAt (w0 : World) (H : Nat) (s : HSt) (B : List Big) (l : List ByteArray) (k v : Int) (e : Ending) (w' : World) : Prop :=
  (k = 0 ∧ e = .returned (.tuple #[.string emB, .bool false]) ∧ Hw w0 w' H s B) ∨
  (k ≠ 0 ∧ (l.length : Int) ≠ v ∧ e = .panicked (refL 10) ∧ Hw w0 w' H s B) ∨
  (k ≠ 0 ∧ (l.length : Int) = v ∧ Hw w0 w' H (deedR s k l).1 B ∧
    ((∃ b, (deedR s k l).2 = .ok b ∧ e = .returned (.tuple #[.string b, .bool true])) ∨ (∃ er, (deedR s k l).2 = .error er ∧ e = .panicked (refL er))))
def DeedIn (w0 : World) (H : Nat) (s : HSt) (B : List Big) (l : List ByteArray) (k : Int) (e : Ending) (w' : World) : Prop :=
  Hw w0 w' H (deedR s k l).1 B ∧
    ((∃ b, (deedR s k l).2 = .ok b ∧ e = .returned (.tuple #[.string b, .bool true])) ∨ (∃ er, (deedR s k l).2 = .error er ∧ e = .panicked (refL er)))
theorem kind_want (x : ByteArray) : (kindB x = 0 ∧ wantB x = 0) ∨ (kindB x = 7 ∧ wantB x = 1) ∨ (kindB x = 6 ∧ wantB x = 2) ∨ (kindB x = 5 ∧ wantB x = 2) ∨ (kindB x = 4 ∧ wantB x = 2) ∨ (kindB x = 3 ∧ wantB x = 4) ∨ (kindB x = 2 ∧ wantB x = 2) ∨ (kindB x = 1 ∧ wantB x = 3) := by
  unfold kindB wantB
  repeat' split
  all_goals simp
theorem numOkC (z : ByteArray) (hz : z.size ≤ maxLen) {q : Int} (h : numB z = some q) : ∀ W, Calls Tryd.prog 30 #[.string z] W fun e w' => e = .returned (.int .i64 q) ∧ Fr W w' [] := fun W => by
  have hc := deskNum z W hz
  rw [h] at hc
  refine hc.mono ?_
  rintro e w' ⟨hf, ⟨v, h1, rfl⟩ | ⟨h1, rfl⟩⟩
  · cases h1; exact ⟨rfl, hf⟩
  · cases h1
theorem numNoC (z : ByteArray) (hz : z.size ≤ maxLen) (h : numB z = none) : ∀ W, Calls Tryd.prog 30 #[.string z] W fun e w' => e = .panicked (refL 10) ∧ Fr W w' [] := fun W => by
  have hc := deskNum z W hz
  rw [h] at hc
  refine hc.mono ?_
  rintro e w' ⟨hf, ⟨v, h1, rfl⟩ | ⟨h1, rfl⟩⟩
  · cases h1
  · exact ⟨rfl, hf⟩
theorem Hw.deedZ {w0 w : World} {H : Nat} {s : HSt} {N : Nat} {k n : Int} {nm tn : ByteArray} {B : List Big} (h : Hw w0 w H s (eD N k n nm tn :: B)) : ∀ i, w.frozen? ⟨N, i, none⟩ = false := by
  obtain ⟨am, cm, al, cl, hf⟩ := h.out
  obtain ⟨g, e, _, h1, h2, h3⟩ := hf.open List.mem_cons_self (by show 0 < 4; omega)
  cases e
  exact h3
theorem Hw.setN {w0 w : World} {H : Nat} {s : HSt} {N : Nat} {k n : Int} {nm tn : ByteArray} {B : List Big} (h : Hw w0 w H s (eD N k n nm tn :: B)) (y : Int) : Hw w0 (w.setCell ⟨N, 1, none⟩ (.int .i64 y)) H s (eD N k y nm tn :: B) := by
  obtain ⟨am, cm, al, cl, hf⟩ := h.out
  exact Hw.into (hf.set 1 (.int .i64 y))
theorem Hw.setNm {w0 w : World} {H : Nat} {s : HSt} {N : Nat} {k n : Int} {nm tn : ByteArray} {B : List Big} (h : Hw w0 w H s (eD N k n nm tn :: B)) (y : ByteArray) : Hw w0 (w.setCell ⟨N, 2, none⟩ (.string y)) H s (eD N k n y tn :: B) := by
  obtain ⟨am, cm, al, cl, hf⟩ := h.out
  exact Hw.into (hf.set 2 (.string y))
theorem Hw.setTn {w0 w : World} {H : Nat} {s : HSt} {N : Nat} {k n : Int} {nm tn : ByteArray} {B : List Big} (h : Hw w0 w H s (eD N k n nm tn :: B)) (y : ByteArray) : Hw w0 (w.setCell ⟨N, 3, none⟩ (.string y)) H s (eD N k n nm y :: B) := by
  obtain ⟨am, cm, al, cl, hf⟩ := h.out
  exact Hw.into (hf.set 3 (.string y))
theorem insH {w0 w : World} {ops : Array Oper} {rest : List Oper} {o : Oper} {a : Act} {Q : Exit → Act → World → Prop} (hg : o.guard = none) (m x v : Operand) (key : ByteArray) (c : Int)
    (hop : o.op = Op.insert 66 m x v) (hx : a.eval x = .string key) (hv : a.eval v = .int .i64 c) (b : Nat) (mp : ByteArray → Int) (L : List (Nat × (ByteArray → Int))) (k : Nat) (h : Hid (Mps w0 w ((b, mp) :: L) k)) (hm : a.eval m = .map (some b)) (hk : k ≤ 1000) (hks : decide (key.size ≤ 1000) = true) (hc : decide (0 ≤ c ∧ c ≤ 1000) = true)
    (hK : ∀ w', Hid (Mps w0 w' ((b, updD mp key c) :: L) (k + 1)) → wpList Tryd.prog ops Q rest (a.put o.dst undef) w') :
    wpList Tryd.prog ops Q (o :: rest) a w :=
  insD hg m x v key c hop hx hv b mp L k h.out hm hk (of_decide_eq_true hks) (by have := of_decide_eq_true hc; omega) (fun w' h' => hK w' (Lib.hid h'))
theorem insN {w0 w : World} {ops : Array Oper} {rest : List Oper} {o : Oper} {a : Act} {Q : Exit → Act → World → Prop} (hg : o.guard = none) (m x v : Operand) (key : ByteArray) (c : Int)
    (hop : o.op = Op.insert 66 m x v) (hx : a.eval x = .string key) (hv : a.eval v = .int .i64 c) (L : List (Nat × (ByteArray → Int))) (k : Nat) (h : Hid (Mps w0 w L k)) (hm : a.eval m = .map (some w.heap.size)) (hk : k ≤ 1000) (hks : decide (key.size ≤ 1000) = true) (hc : decide (0 ≤ c ∧ c ≤ 1000) = true)
    (hK : ∀ w' N, Hid (w.heap.size = N) → Hid (Mps w0 w' ((w.heap.size, updD (fun _ => 0) key c) :: L) (k + 1)) → wpList Tryd.prog ops Q rest (a.put o.dst undef) w') :
    wpList Tryd.prog ops Q (o :: rest) a (w.alloc (.map #[] 0)) :=
  insH hg m x v key c hop hx hv w.heap.size _ L k (Lib.hid (h.out.make rfl)) hm hk hks hc (fun w' h' => hK w' _ (Lib.hid rfl) h')
set_option maxRecDepth 100000 in
set_option maxHeartbeats 16000000 in
theorem deskDeed {w0 w : World} (H D : Nat) (s : HSt) (B : List Big) (K : Nat) (l : List ByteArray) (n : Nat) (a : Option Addr) (cap : Nat) (h : Hw w0 w H s B) (ok : HOk s K) (hK : K ≤ 1000) (hd : eDk D H ∈ B) (hl : eWd a n cap l ∈ B) (hn : l.length = n) (h1 : 1 ≤ n) (hn1 : n ≤ 10000) (hs : ∀ s ∈ l, s.size ≤ 1000000) (hnb : ∀ m ∈ s.M, namedB m.nm = true) (ht : TabW w0) :
    Calls Tryd.prog 21 #[.pointer (some ⟨D, 0, none⟩), .slice a n cap] w (DeedSaid w0 H s B l) := by
  have hmm := @run_makeMap Tryd.prog
  have HW := Lib.hid h; have HN := Lib.hid hn
  have HM0 := Lib.hid (Mps.start w)
  clear h hn
  go_enter Tryd.func21, Tryd.ntmps21
  go_upto_region 2 with (first
    | (refine insH rfl _ _ _ _ _ rfl rfl rfl _ _ _ _ (by assumption) rfl (by omega) rfl rfl ?_; (try clear HM'); intro w' HM')
    | (refine insN rfl _ _ _ _ _ rfl rfl rfl _ _ (by assumption) rfl (by omega) rfl rfl ?_; (try clear HM'); intro w' N HN' HM'))
  have hHM := HM'.out
  have hN' := HN'.out
  rw [hN'] at hHM ⊢
  obtain ⟨b1, hb1⟩ : ∃ b1, w.heap.size = b1 := ⟨_, rfl⟩
  rw [hb1] at hHM ⊢
  have HM : Hid (Mps w w' [(N, wantB), (b1, kindB)] 14) := Lib.hid hHM
  obtain ⟨W, hW⟩ : ∃ W, w' = W := ⟨_, rfl⟩
  rw [hW] at HM ⊢
  have hw2 := HW.out.keep HM.out.bel
  have HT := Lib.hid ht
  obtain ⟨x, hx⟩ : ∃ x, l[0]? = some x := ⟨_, List.getElem?_eq_getElem (by rw [HN.out]; omega)⟩
  have hxw : wd l 0 = x := by unfold wd; rw [List.getD_eq_getElem?_getD, hx]; rfl
  have hxs : x.size ≤ maxLen := by have := hs x (List.mem_of_getElem? hx); unfold maxLen; omega
  have HWS := Lib.hid (hw2.saN (T := 9) (c := 1) hl)
  obtain ⟨ab, ao, rfl, hbl, x0⟩ := HWS.out.strA 0 x hx
  rw [Nat.add_zero] at x0
  have hk1 := HM.out.look (b := b1) (mp := kindB) (by simp) hxs
  have hk2 := HM.out.look (b := N) (mp := wantB) (by simp) hxs
  have HKW := Lib.hid (kind_want x)
  obtain ⟨k, hk⟩ : ∃ k, kindB x = k := ⟨_, rfl⟩
  obtain ⟨v, hv⟩ : ∃ v, wantB x = v := ⟨_, rfl⟩
  have HS : Hid (DeedSaid w0 H s B l = DeedAt w0 H s B l k v) := Lib.hid (by unfold DeedSaid DeedAt; rw [hxw, hk, hv])
  rw [hk] at hk1 HKW
  rw [hv] at hk2 HKW
  have HW2 := Lib.hid hw2
  have HXW := Lib.hid hxw
  have i1 : (1 : Int) ≤ (n : Int) := by omega
  clear hmm hHM hN' hb1 hW hw2 hx hxw hxs hk hv HM HM0 ht HM'
  clear HW
  by_cases hk0 : k = 0
  · subst hk0
    have g : ((0 : Int) == 0) = true := rfl
    go_wp2_with fail
    go_ret2
    rw [HS.out]
    exact .inl ⟨rfl, rfl, HW2.out⟩
  have g0 : (k == 0) = false := beq_eq_false_iff_ne.2 hk0
  by_cases hnv : (n : Int) = v
  · have g1 : ((n : Int) != v) = false := by rw [hnv]; exact bne_self_eq_false _
    have HIN : Hid (∀ e w', DeedIn w0 H s B l k e w' → DeedSaid w0 H s B l e w') := Lib.hid (fun e w' h => by
      rw [HS.out]
      exact .inr (.inr ⟨hk0, by rw [HN.out]; exact hnv, h.1, h.2⟩))
    have hkk : k = 7 ∨ k = 6 ∨ k = 5 ∨ k = 4 ∨ k = 3 ∨ k = 2 ∨ k = 1 := by
      rcases HKW.out with h | h | h | h | h | h | h | h <;> omega
    clear HS hk0
    obtain ⟨X, hX⟩ : ∃ X, W.heap.size = X := ⟨_, rfl⟩
    have HWX := Lib.hid (HW2.out.newDeedN k 0 emB emB hX)
    have hab : ab < X := by rw [← hX]; exact hbl
    go_upto_block 0 with (fail)
    obtain ⟨WX, hWX⟩ : ∃ WX, W.alloc (.cells #[.int .i64 k, .int .i64 0, .string ⟨#[]⟩, .string ⟨#[]⟩] 68) = WX := ⟨_, rfl⟩
    have hwx := HWX.out
    unfold emB at hwx
    rw [hWX] at hwx ⊢
    have HWX := Lib.hid hwx
    clear hwx hWX
    go_cut [35] from 34 to 76 (fun _ wc => Hid (∃ n nm tn, deedX k l = some (n, nm, tn) ∧ Hw w0 wc H s (eD X k n nm tn :: B)))
    case first =>
      obtain ⟨d0, d1, d2, d3, hXl⟩ := @Hw.deed _ _ _ _ _ HWX.out X k 0 ⟨#[]⟩ ⟨#[]⟩ (by simp)
      have dz := HWX.out.deedZ
      have z1 := dz 1
      have z2 := dz 2
      have z3 := dz 3
      have hS := HWX.out.saN (T := 9) (c := 1) (List.mem_cons_of_mem _ hl)
      have n1 : X ≠ ab := by omega
      have n2 : ab ≠ X := by omega
      have HLL := Lib.hid (show (n : Int) = v from hnv)
      rcases hkk with rfl | rfl | rfl | rfl | rfl | rfl | rfl
      · have HO : Hid (∃ n nm tn, deedX 7 l = some (n, nm, tn) ∧ Hw w0 WX H s (eD X 7 n nm tn :: B)) := Lib.hid ⟨0, emB, emB, rfl, HWX.out⟩
        clear d0 d1 d2 d3 dz z1 z2 z3 hS n1 n2
        go_wp2_with fail
        go_meet
        exact HO
      · have hn3 : n = 2 := by rcases HKW.out with h | h | h | h | h | h | h | h <;> omega
        subst hn3
        obtain ⟨y, hy⟩ : ∃ y, l[1]? = some y := ⟨_, List.getElem?_eq_getElem (by rw [HN.out]; omega)⟩
        obtain ⟨_, _, e, -, x1⟩ := hS.strA 1 y hy
        cases e
        have HY : Hid (wd l 1 = y) := Lib.hid (by unfold wd; rw [List.getD_eq_getElem?_getD, hy]; rfl)
        have HO : Hid (∃ n nm tn, deedX 6 l = some (n, nm, tn) ∧ Hw w0 (WX.setCell ⟨X, 2, none⟩ (.string y)) H s (eD X 6 n nm tn :: B)) := Lib.hid ⟨0, y, emB, by rw [← HY.out]; rfl, HWX.out.setNm y⟩
        clear dz hS hy d1 d3 z1 z3
        go_wp2_with fail
        go_meet
        exact HO
      · have hn3 : n = 2 := by rcases HKW.out with h | h | h | h | h | h | h | h <;> omega
        subst hn3
        obtain ⟨z, hz⟩ : ∃ z, l[1]? = some z := ⟨_, List.getElem?_eq_getElem (by rw [HN.out]; omega)⟩
        obtain ⟨_, _, e, -, x1⟩ := hS.strA 1 z hz
        cases e
        have HV1 : Hid (wd l 1 = z) := Lib.hid (by unfold wd; rw [List.getD_eq_getElem?_getD, hz]; rfl)
        have hzs := hs z (List.mem_of_getElem? hz)
        clear dz hS hnv g1 i1 HKW hk1 hk2 x0 hz
        cases hnb : numB z with
        | none =>
          have HNO := Lib.hid (numNoC z (by unfold maxLen; omega) hnb)
          have HOut : Hid (∀ w', Hw w0 w' H s B → DeedSaid w0 H s B l (.panicked (refL 10)) w') := Lib.hid (fun w' hh => HIN.out _ _ (by
            have e1 : deedR s 5 l = (s, .error 10) := by unfold deedR deedX; simp [HV1.out, hnb]
            unfold DeedIn
            rw [e1]
            exact ⟨hh, .inr ⟨10, rfl, rfl⟩⟩))
          clear hnb
          go_wp2_with fail
          refine (HNO.out _).mono ?_; rintro e w2 ⟨rfl, hf2⟩
          go_wp2_with fail
          exact ⟨rfl, HOut.out _ ((HWX.out.keep hf2.bel).sub (List.sublist_cons_self _ _))⟩
        | some q =>
          have HNO := Lib.hid (numOkC z (by unfold maxLen; omega) hnb)
          have HX : Hid (deedX 5 l = some (q, emB, emB)) := Lib.hid (by simp [deedX, hnb, HV1.out])
          clear hnb
          go_wp2_with fail
          refine (HNO.out _).mono ?_; rintro e w2 ⟨rfl, hf2⟩
          have HW3 := Lib.hid (HWX.out.keep hf2.bel)
          obtain ⟨c0, c1, c2, c3, hX2⟩ := @Hw.deed _ _ _ _ _ HW3.out X 5 0 ⟨#[]⟩ ⟨#[]⟩ (by simp)
          have y1 := HW3.out.deedZ 1
          clear hf2 d0 d1 d2 d3 z1 z2 z3 x1
          go_wp2_with fail
          go_meet
          exact Lib.hid ⟨q, emB, emB, HX.out, HW3.out.setN q⟩
      · have hn3 : n = 2 := by rcases HKW.out with h | h | h | h | h | h | h | h <;> omega
        subst hn3
        obtain ⟨y, hy⟩ : ∃ y, l[1]? = some y := ⟨_, List.getElem?_eq_getElem (by rw [HN.out]; omega)⟩
        obtain ⟨_, _, e, -, x1⟩ := hS.strA 1 y hy
        cases e
        have HY : Hid (wd l 1 = y) := Lib.hid (by unfold wd; rw [List.getD_eq_getElem?_getD, hy]; rfl)
        have HO : Hid (∃ n nm tn, deedX 4 l = some (n, nm, tn) ∧ Hw w0 (WX.setCell ⟨X, 2, none⟩ (.string y)) H s (eD X 4 n nm tn :: B)) := Lib.hid ⟨0, y, emB, by rw [← HY.out]; rfl, HWX.out.setNm y⟩
        clear dz hS hy d1 d3 z1 z3
        go_wp2_with fail
        go_meet
        exact HO
      · have hn3 : n = 4 := by rcases HKW.out with h | h | h | h | h | h | h | h <;> omega
        subst hn3
        obtain ⟨y, hy⟩ : ∃ y, l[1]? = some y := ⟨_, List.getElem?_eq_getElem (by rw [HN.out]; omega)⟩
        obtain ⟨_, _, e, -, x1⟩ := hS.strA 1 y hy
        cases e
        have HV1 : Hid (wd l 1 = y) := Lib.hid (by unfold wd; rw [List.getD_eq_getElem?_getD, hy]; rfl)
        obtain ⟨t, ht⟩ : ∃ t, l[2]? = some t := ⟨_, List.getElem?_eq_getElem (by rw [HN.out]; omega)⟩
        obtain ⟨_, _, e, -, x2⟩ := hS.strA 2 t ht
        cases e
        have HV2 : Hid (wd l 2 = t) := Lib.hid (by unfold wd; rw [List.getD_eq_getElem?_getD, ht]; rfl)
        obtain ⟨z, hz⟩ : ∃ z, l[3]? = some z := ⟨_, List.getElem?_eq_getElem (by rw [HN.out]; omega)⟩
        obtain ⟨_, _, e, -, x3⟩ := hS.strA 3 z hz
        cases e
        have HV3 : Hid (wd l 3 = z) := Lib.hid (by unfold wd; rw [List.getD_eq_getElem?_getD, hz]; rfl)
        have hzs := hs z (List.mem_of_getElem? hz)
        clear dz hS hnv g1 i1 HKW hk1 hk2 x0 hy ht hz
        cases hnb : numB z with
        | none =>
          have HNO := Lib.hid (numNoC z (by unfold maxLen; omega) hnb)
          have HOut : Hid (∀ w', Hw w0 w' H s B → DeedSaid w0 H s B l (.panicked (refL 10)) w') := Lib.hid (fun w' hh => HIN.out _ _ (by
            have e1 : deedR s 3 l = (s, .error 10) := by unfold deedR deedX; simp [HV3.out, hnb]
            unfold DeedIn
            rw [e1]
            exact ⟨hh, .inr ⟨10, rfl, rfl⟩⟩))
          clear hnb
          go_wp2_with fail
          have hSd : (fun w' : World => w'.cell? ⟨ab, ao + 1, none⟩ = some (.string y) ∧ w'.cell? ⟨ab, ao + 2, none⟩ = some (.string t) ∧ w'.cell? ⟨ab, ao + 3, none⟩ = some (.string z)) WX.drew := ⟨x1, x2, x3⟩
          refine wp_region_U [] (fun w' : World => w'.cell? ⟨ab, ao + 1, none⟩ = some (.string y) ∧ w'.cell? ⟨ab, ao + 2, none⟩ = some (.string t) ∧ w'.cell? ⟨ab, ao + 3, none⟩ = some (.string z)) (by kernel_rfl) ?_
          refine wpAnyU_takeY (i := 0) (v := ?_) rfl (by kernel_rfl) (by kernel_rfl) (by kernel_rfl) (by kernel_rfl) (fun _ _ _ h => h) (Or.inl ⟨by rfl, ?_⟩) (by assumption) ?_
          rotate_left
          · intro w _; go_simp; try with_reducible rfl
          try simp only [Act.put]
          try simp only [List.setIfInBounds_toArray]
          try simp only [List.set_cons_succ]
          try simp only [List.set_cons_zero]
          refine wpAnyU_takeY (i := 1) (v := ?_) rfl (by kernel_rfl) (by kernel_rfl) (by kernel_rfl) (by kernel_rfl) (fun _ _ _ h => h) (Or.inl ⟨by rfl, ?_⟩) (by assumption) ?_
          rotate_left
          · intro w _; go_simp; try with_reducible rfl
          try simp only [Act.put]
          try simp only [List.setIfInBounds_toArray]
          try simp only [List.set_cons_succ]
          try simp only [List.set_cons_zero]
          refine wpAnyU_take (i := 2) (v := ?_) rfl (by kernel_rfl) (by kernel_rfl) (by kernel_rfl) (by kernel_rfl) (by kernel_rfl) (by kernel_rfl) (fun _ _ _ h => h) (Or.inl ⟨by rfl, ?_⟩) (by assumption) ?_
          rotate_left
          · intro w hSw; obtain ⟨s1, s2, s3⟩ := hSw; go_simp; try with_reducible rfl
          try simp only [Act.put]
          try simp only [List.setIfInBounds_toArray]
          try simp only [List.set_cons_succ]
          try simp only [List.set_cons_zero]
          refine wpAnyU_takeY (i := 3) (v := ?_) rfl (by kernel_rfl) (by kernel_rfl) (by kernel_rfl) (by kernel_rfl) (fun _ _ _ h => h) (Or.inl ⟨by rfl, ?_⟩) (by assumption) ?_
          rotate_left
          · intro w _; go_simp; try with_reducible rfl
          try simp only [Act.put]
          try simp only [List.setIfInBounds_toArray]
          try simp only [List.set_cons_succ]
          try simp only [List.set_cons_zero]
          refine wpAnyU_takeY (i := 4) (v := ?_) rfl (by kernel_rfl) (by kernel_rfl) (by kernel_rfl) (by kernel_rfl) (fun _ _ _ h => h) (Or.inl ⟨by rfl, ?_⟩) (by assumption) ?_
          rotate_left
          · intro w _; go_simp; try with_reducible rfl
          try simp only [Act.put]
          try simp only [List.setIfInBounds_toArray]
          try simp only [List.set_cons_succ]
          try simp only [List.set_cons_zero]
          refine wpAnyU_take (i := 5) (v := ?_) rfl (by kernel_rfl) (by kernel_rfl) (by kernel_rfl) (by kernel_rfl) (by kernel_rfl) (by kernel_rfl) (fun _ _ _ h => h) (Or.inl ⟨by rfl, ?_⟩) (by assumption) ?_
          rotate_left
          · intro w hSw; obtain ⟨s1, s2, s3⟩ := hSw; go_simp; try with_reducible rfl
          try simp only [Act.put]
          try simp only [List.setIfInBounds_toArray]
          try simp only [List.set_cons_succ]
          try simp only [List.set_cons_zero]
          refine wpAnyU_takeY (i := 6) (v := ?_) rfl (by kernel_rfl) (by kernel_rfl) (by kernel_rfl) (by kernel_rfl) (fun _ _ _ h => h) (Or.inl ⟨by rfl, ?_⟩) (by assumption) ?_
          rotate_left
          · intro w _; go_simp; try with_reducible rfl
          try simp only [Act.put]
          try simp only [List.setIfInBounds_toArray]
          try simp only [List.set_cons_succ]
          try simp only [List.set_cons_zero]
          refine wpAnyU_takeY (i := 7) (v := ?_) rfl (by kernel_rfl) (by kernel_rfl) (by kernel_rfl) (by kernel_rfl) (fun _ _ _ h => h) (Or.inl ⟨by rfl, ?_⟩) (by assumption) ?_
          rotate_left
          · intro w _; go_simp; try with_reducible rfl
          try simp only [Act.put]
          try simp only [List.setIfInBounds_toArray]
          try simp only [List.set_cons_succ]
          try simp only [List.set_cons_zero]
          refine wpAnyU_take (i := 8) (v := ?_) rfl (by kernel_rfl) (by kernel_rfl) (by kernel_rfl) (by kernel_rfl) (by kernel_rfl) (by kernel_rfl) (fun _ _ _ h => h) (Or.inl ⟨by rfl, ?_⟩) (by assumption) ?_
          rotate_left
          · intro w hSw; obtain ⟨s1, s2, s3⟩ := hSw; go_simp; try with_reducible rfl
          try simp only [Act.put]
          try simp only [List.setIfInBounds_toArray]
          try simp only [List.set_cons_succ]
          try simp only [List.set_cons_zero]
          refine wpAnyU_takeY (i := 10) (v := ?_) rfl (by kernel_rfl) (by kernel_rfl) (by kernel_rfl) (by kernel_rfl) (fun _ _ _ h => h) (Or.inl ⟨by rfl, ?_⟩) (by assumption) ?_
          rotate_left
          · intro w _; go_simp; try with_reducible rfl
          try simp only [Act.put]
          try simp only [List.setIfInBounds_toArray]
          try simp only [List.set_cons_succ]
          try simp only [List.set_cons_zero]
          refine wpAnyU_ready (rs := [9]) (by kernel_rfl) (by simp) ?_
          refine AllReadyU.cons rfl (fun K hK => ?_) AllReadyU.nil
          go_simp
          refine (HNO.out _).mono ?_; rintro e w2 ⟨rfl, hf2⟩
          have HF2 := Lib.hid hf2
          clear hf2 hK
          go_wp2_with fail
          exact ⟨rfl, HOut.out _ ((HWX.out.drew.keep HF2.out.bel).sub (List.sublist_cons_self _ _))⟩
        | some q =>
          have HNO := Lib.hid (numOkC z (by unfold maxLen; omega) hnb)
          have HX : Hid (deedX 3 l = some (q, y, t)) := Lib.hid (by simp [deedX, hnb, HV1.out, HV2.out, HV3.out])
          clear hnb
          go_wp2_with fail
          have hSd : (fun w' : World => w'.cell? ⟨ab, ao + 1, none⟩ = some (.string y) ∧ w'.cell? ⟨ab, ao + 2, none⟩ = some (.string t) ∧ w'.cell? ⟨ab, ao + 3, none⟩ = some (.string z)) WX.drew := ⟨x1, x2, x3⟩
          refine wp_region_U [] (fun w' : World => w'.cell? ⟨ab, ao + 1, none⟩ = some (.string y) ∧ w'.cell? ⟨ab, ao + 2, none⟩ = some (.string t) ∧ w'.cell? ⟨ab, ao + 3, none⟩ = some (.string z)) (by kernel_rfl) ?_
          refine wpAnyU_takeY (i := 0) (v := ?_) rfl (by kernel_rfl) (by kernel_rfl) (by kernel_rfl) (by kernel_rfl) (fun _ _ _ h => h) (Or.inl ⟨by rfl, ?_⟩) (by assumption) ?_
          rotate_left
          · intro w _; go_simp; try with_reducible rfl
          try simp only [Act.put]
          try simp only [List.setIfInBounds_toArray]
          try simp only [List.set_cons_succ]
          try simp only [List.set_cons_zero]
          refine wpAnyU_takeY (i := 1) (v := ?_) rfl (by kernel_rfl) (by kernel_rfl) (by kernel_rfl) (by kernel_rfl) (fun _ _ _ h => h) (Or.inl ⟨by rfl, ?_⟩) (by assumption) ?_
          rotate_left
          · intro w _; go_simp; try with_reducible rfl
          try simp only [Act.put]
          try simp only [List.setIfInBounds_toArray]
          try simp only [List.set_cons_succ]
          try simp only [List.set_cons_zero]
          refine wpAnyU_take (i := 2) (v := ?_) rfl (by kernel_rfl) (by kernel_rfl) (by kernel_rfl) (by kernel_rfl) (by kernel_rfl) (by kernel_rfl) (fun _ _ _ h => h) (Or.inl ⟨by rfl, ?_⟩) (by assumption) ?_
          rotate_left
          · intro w hSw; obtain ⟨s1, s2, s3⟩ := hSw; go_simp; try with_reducible rfl
          try simp only [Act.put]
          try simp only [List.setIfInBounds_toArray]
          try simp only [List.set_cons_succ]
          try simp only [List.set_cons_zero]
          refine wpAnyU_takeY (i := 3) (v := ?_) rfl (by kernel_rfl) (by kernel_rfl) (by kernel_rfl) (by kernel_rfl) (fun _ _ _ h => h) (Or.inl ⟨by rfl, ?_⟩) (by assumption) ?_
          rotate_left
          · intro w _; go_simp; try with_reducible rfl
          try simp only [Act.put]
          try simp only [List.setIfInBounds_toArray]
          try simp only [List.set_cons_succ]
          try simp only [List.set_cons_zero]
          refine wpAnyU_takeY (i := 4) (v := ?_) rfl (by kernel_rfl) (by kernel_rfl) (by kernel_rfl) (by kernel_rfl) (fun _ _ _ h => h) (Or.inl ⟨by rfl, ?_⟩) (by assumption) ?_
          rotate_left
          · intro w _; go_simp; try with_reducible rfl
          try simp only [Act.put]
          try simp only [List.setIfInBounds_toArray]
          try simp only [List.set_cons_succ]
          try simp only [List.set_cons_zero]
          refine wpAnyU_take (i := 5) (v := ?_) rfl (by kernel_rfl) (by kernel_rfl) (by kernel_rfl) (by kernel_rfl) (by kernel_rfl) (by kernel_rfl) (fun _ _ _ h => h) (Or.inl ⟨by rfl, ?_⟩) (by assumption) ?_
          rotate_left
          · intro w hSw; obtain ⟨s1, s2, s3⟩ := hSw; go_simp; try with_reducible rfl
          try simp only [Act.put]
          try simp only [List.setIfInBounds_toArray]
          try simp only [List.set_cons_succ]
          try simp only [List.set_cons_zero]
          refine wpAnyU_takeY (i := 6) (v := ?_) rfl (by kernel_rfl) (by kernel_rfl) (by kernel_rfl) (by kernel_rfl) (fun _ _ _ h => h) (Or.inl ⟨by rfl, ?_⟩) (by assumption) ?_
          rotate_left
          · intro w _; go_simp; try with_reducible rfl
          try simp only [Act.put]
          try simp only [List.setIfInBounds_toArray]
          try simp only [List.set_cons_succ]
          try simp only [List.set_cons_zero]
          refine wpAnyU_takeY (i := 7) (v := ?_) rfl (by kernel_rfl) (by kernel_rfl) (by kernel_rfl) (by kernel_rfl) (fun _ _ _ h => h) (Or.inl ⟨by rfl, ?_⟩) (by assumption) ?_
          rotate_left
          · intro w _; go_simp; try with_reducible rfl
          try simp only [Act.put]
          try simp only [List.setIfInBounds_toArray]
          try simp only [List.set_cons_succ]
          try simp only [List.set_cons_zero]
          refine wpAnyU_take (i := 8) (v := ?_) rfl (by kernel_rfl) (by kernel_rfl) (by kernel_rfl) (by kernel_rfl) (by kernel_rfl) (by kernel_rfl) (fun _ _ _ h => h) (Or.inl ⟨by rfl, ?_⟩) (by assumption) ?_
          rotate_left
          · intro w hSw; obtain ⟨s1, s2, s3⟩ := hSw; go_simp; try with_reducible rfl
          try simp only [Act.put]
          try simp only [List.setIfInBounds_toArray]
          try simp only [List.set_cons_succ]
          try simp only [List.set_cons_zero]
          refine wpAnyU_takeY (i := 10) (v := ?_) rfl (by kernel_rfl) (by kernel_rfl) (by kernel_rfl) (by kernel_rfl) (fun _ _ _ h => h) (Or.inl ⟨by rfl, ?_⟩) (by assumption) ?_
          rotate_left
          · intro w _; go_simp; try with_reducible rfl
          try simp only [Act.put]
          try simp only [List.setIfInBounds_toArray]
          try simp only [List.set_cons_succ]
          try simp only [List.set_cons_zero]
          refine wpAnyU_ready (rs := [9]) (by kernel_rfl) (by simp) ?_
          refine AllReadyU.cons rfl (fun K hK => ?_) AllReadyU.nil
          go_simp
          refine (HNO.out _).mono ?_; rintro e w2 ⟨rfl, hf2⟩
          have HW3 := Lib.hid (HWX.out.drew.keep hf2.bel)
          obtain ⟨c0, c1, c2, c3, hX2⟩ := @Hw.deed _ _ _ _ _ HW3.out X 3 0 ⟨#[]⟩ ⟨#[]⟩ (by simp)
          have y1 := HW3.out.deedZ 1
          have y2 := HW3.out.deedZ 2
          have y3 := HW3.out.deedZ 3
          have q1 := ((bcell hf2.bel).1 ab (ao + 1) (show ab < WX.heap.size by omega)).trans x1
          have q2 := ((bcell hf2.bel).1 ab (ao + 2) (show ab < WX.heap.size by omega)).trans x2
          have q3 := ((bcell hf2.bel).1 ab (ao + 3) (show ab < WX.heap.size by omega)).trans x3
          have hS2 : (fun w' : World => w'.cell? ⟨ab, ao + 1, none⟩ = some (.string y) ∧ w'.cell? ⟨ab, ao + 2, none⟩ = some (.string t) ∧ w'.cell? ⟨ab, ao + 3, none⟩ = some (.string z)) w2 := ⟨q1, q2, q3⟩
          clear hf2 d0 d1 d2 d3 z1 z2 z3 hSd
          refine hK.out _ _ (fun _ => hS2) ?_
          clear hK K
          try simp only [Act.put]
          try simp only [List.setIfInBounds_toArray]
          try simp only [List.set_cons_succ]
          try simp only [List.set_cons_zero]
          refine wpAnyU_ready (rs := [11]) (by kernel_rfl) (by simp) ?_
          refine AllReadyU.cons rfl (fun K hK => ?_) AllReadyU.nil
          go_simp
          have hS3 : (fun w' : World => w'.cell? ⟨ab, ao + 1, none⟩ = some (.string y) ∧ w'.cell? ⟨ab, ao + 2, none⟩ = some (.string t) ∧ w'.cell? ⟨ab, ao + 3, none⟩ = some (.string z)) (w2.setCell ⟨X, 2, none⟩ (.string y)) := ⟨(World.cell?_setCell_other _ _ _ _ (by intro h; simp only [Addr.mk.injEq] at h; omega)).trans hS2.1, (World.cell?_setCell_other _ _ _ _ (by intro h; simp only [Addr.mk.injEq] at h; omega)).trans hS2.2.1, (World.cell?_setCell_other _ _ _ _ (by intro h; simp only [Addr.mk.injEq] at h; omega)).trans hS2.2.2⟩
          refine hK.out _ _ (fun _ => hS3) ?_
          clear hK K
          try simp only [Act.put]
          try simp only [List.setIfInBounds_toArray]
          try simp only [List.set_cons_succ]
          try simp only [List.set_cons_zero]
          refine wpAnyU_takeY (i := 12) (v := ?_) rfl (by kernel_rfl) (by kernel_rfl) (by kernel_rfl) (by kernel_rfl) (fun _ _ _ h => h) (Or.inl ⟨by rfl, ?_⟩) (by assumption) ?_
          rotate_left
          · intro w _; go_simp; try with_reducible rfl
          try simp only [Act.put]
          try simp only [List.setIfInBounds_toArray]
          try simp only [List.set_cons_succ]
          try simp only [List.set_cons_zero]
          refine wpAnyU_ready (rs := [13]) (by kernel_rfl) (by simp) ?_
          refine AllReadyU.cons rfl (fun K hK => ?_) AllReadyU.nil
          go_simp
          have hS4 : (fun w' : World => w'.cell? ⟨ab, ao + 1, none⟩ = some (.string y) ∧ w'.cell? ⟨ab, ao + 2, none⟩ = some (.string t) ∧ w'.cell? ⟨ab, ao + 3, none⟩ = some (.string z)) ((w2.setCell ⟨X, 2, none⟩ (.string y)).setCell ⟨X, 3, none⟩ (.string t)) := ⟨(World.cell?_setCell_other _ _ _ _ (by intro h; simp only [Addr.mk.injEq] at h; omega)).trans hS3.1, (World.cell?_setCell_other _ _ _ _ (by intro h; simp only [Addr.mk.injEq] at h; omega)).trans hS3.2.1, (World.cell?_setCell_other _ _ _ _ (by intro h; simp only [Addr.mk.injEq] at h; omega)).trans hS3.2.2⟩
          refine hK.out _ _ (fun _ => hS4) ?_
          clear hK K
          try simp only [Act.put]
          try simp only [List.setIfInBounds_toArray]
          try simp only [List.set_cons_succ]
          try simp only [List.set_cons_zero]
          refine wpAnyU_takeY (i := 14) (v := ?_) rfl (by kernel_rfl) (by kernel_rfl) (by kernel_rfl) (by kernel_rfl) (fun _ _ _ h => h) (Or.inl ⟨by rfl, ?_⟩) (by assumption) ?_
          rotate_left
          · intro w _; go_simp; try with_reducible rfl
          try simp only [Act.put]
          try simp only [List.setIfInBounds_toArray]
          try simp only [List.set_cons_succ]
          try simp only [List.set_cons_zero]
          refine wpAnyU_ready (rs := [15]) (by kernel_rfl) (by simp) ?_
          refine AllReadyU.cons rfl (fun K hK => ?_) AllReadyU.nil
          go_simp
          have hS5 : (fun w' : World => w'.cell? ⟨ab, ao + 1, none⟩ = some (.string y) ∧ w'.cell? ⟨ab, ao + 2, none⟩ = some (.string t) ∧ w'.cell? ⟨ab, ao + 3, none⟩ = some (.string z)) (((w2.setCell ⟨X, 2, none⟩ (.string y)).setCell ⟨X, 3, none⟩ (.string t)).setCell ⟨X, 1, none⟩ (.int .i64 q)) := ⟨(World.cell?_setCell_other _ _ _ _ (by intro h; simp only [Addr.mk.injEq] at h; omega)).trans hS4.1, (World.cell?_setCell_other _ _ _ _ (by intro h; simp only [Addr.mk.injEq] at h; omega)).trans hS4.2.1, (World.cell?_setCell_other _ _ _ _ (by intro h; simp only [Addr.mk.injEq] at h; omega)).trans hS4.2.2⟩
          refine hK.out _ _ (fun _ => hS5) ?_
          clear hK K
          try simp only [Act.put]
          try simp only [List.setIfInBounds_toArray]
          try simp only [List.set_cons_succ]
          try simp only [List.set_cons_zero]
          refine wpAnyU_done (by kernel_rfl) ?_ _
          go_wp2_with fail
          go_meet
          exact Lib.hid ⟨q, _, _, HX.out, (((HW3.out.setNm y).setTn t).setN q)⟩
      · have hn3 : n = 2 := by rcases HKW.out with h | h | h | h | h | h | h | h <;> omega
        subst hn3
        obtain ⟨y, hy⟩ : ∃ y, l[1]? = some y := ⟨_, List.getElem?_eq_getElem (by rw [HN.out]; omega)⟩
        obtain ⟨_, _, e, -, x1⟩ := hS.strA 1 y hy
        cases e
        have HY : Hid (wd l 1 = y) := Lib.hid (by unfold wd; rw [List.getD_eq_getElem?_getD, hy]; rfl)
        have HO : Hid (∃ n nm tn, deedX 2 l = some (n, nm, tn) ∧ Hw w0 (WX.setCell ⟨X, 2, none⟩ (.string y)) H s (eD X 2 n nm tn :: B)) := Lib.hid ⟨0, y, emB, by rw [← HY.out]; rfl, HWX.out.setNm y⟩
        clear dz hS hy d1 d3 z1 z3
        go_wp2_with fail
        go_meet
        exact HO
      · have hn3 : n = 3 := by rcases HKW.out with h | h | h | h | h | h | h | h <;> omega
        subst hn3
        obtain ⟨y, hy⟩ : ∃ y, l[1]? = some y := ⟨_, List.getElem?_eq_getElem (by rw [HN.out]; omega)⟩
        obtain ⟨_, _, e, -, x1⟩ := hS.strA 1 y hy
        cases e
        have HV1 : Hid (wd l 1 = y) := Lib.hid (by unfold wd; rw [List.getD_eq_getElem?_getD, hy]; rfl)
        obtain ⟨z, hz⟩ : ∃ z, l[2]? = some z := ⟨_, List.getElem?_eq_getElem (by rw [HN.out]; omega)⟩
        obtain ⟨_, _, e, -, x2⟩ := hS.strA 2 z hz
        cases e
        have HV2 : Hid (wd l 2 = z) := Lib.hid (by unfold wd; rw [List.getD_eq_getElem?_getD, hz]; rfl)
        have hzs := hs z (List.mem_of_getElem? hz)
        clear dz hS hnv g1 i1 HKW hk1 hk2 x0 hy hz
        cases hnb : numB z with
        | none =>
          have HNO := Lib.hid (numNoC z (by unfold maxLen; omega) hnb)
          have HOut : Hid (∀ w', Hw w0 w' H s B → DeedSaid w0 H s B l (.panicked (refL 10)) w') := Lib.hid (fun w' hh => HIN.out _ _ (by
            have e1 : deedR s 1 l = (s, .error 10) := by unfold deedR deedX; simp [HV2.out, hnb]
            unfold DeedIn
            rw [e1]
            exact ⟨hh, .inr ⟨10, rfl, rfl⟩⟩))
          clear hnb
          go_wp2_with fail
          have hSd : (fun w' : World => w'.cell? ⟨ab, ao + 1, none⟩ = some (.string y) ∧ w'.cell? ⟨ab, ao + 2, none⟩ = some (.string z)) WX.drew := ⟨x1, x2⟩
          refine wp_region_U [] (fun w' : World => w'.cell? ⟨ab, ao + 1, none⟩ = some (.string y) ∧ w'.cell? ⟨ab, ao + 2, none⟩ = some (.string z)) (by kernel_rfl) ?_
          refine wpAnyU_takeY (i := 0) (v := ?_) rfl (by kernel_rfl) (by kernel_rfl) (by kernel_rfl) (by kernel_rfl) (fun _ _ _ h => h) (Or.inl ⟨by rfl, ?_⟩) (by assumption) ?_
          rotate_left
          · intro w _; go_simp; try with_reducible rfl
          try simp only [Act.put]
          try simp only [List.setIfInBounds_toArray]
          try simp only [List.set_cons_succ]
          try simp only [List.set_cons_zero]
          refine wpAnyU_takeY (i := 1) (v := ?_) rfl (by kernel_rfl) (by kernel_rfl) (by kernel_rfl) (by kernel_rfl) (fun _ _ _ h => h) (Or.inl ⟨by rfl, ?_⟩) (by assumption) ?_
          rotate_left
          · intro w _; go_simp; try with_reducible rfl
          try simp only [Act.put]
          try simp only [List.setIfInBounds_toArray]
          try simp only [List.set_cons_succ]
          try simp only [List.set_cons_zero]
          refine wpAnyU_take (i := 2) (v := ?_) rfl (by kernel_rfl) (by kernel_rfl) (by kernel_rfl) (by kernel_rfl) (by kernel_rfl) (by kernel_rfl) (fun _ _ _ h => h) (Or.inl ⟨by rfl, ?_⟩) (by assumption) ?_
          rotate_left
          · intro w hSw; obtain ⟨s1, s2⟩ := hSw; go_simp; try with_reducible rfl
          try simp only [Act.put]
          try simp only [List.setIfInBounds_toArray]
          try simp only [List.set_cons_succ]
          try simp only [List.set_cons_zero]
          refine wpAnyU_takeY (i := 3) (v := ?_) rfl (by kernel_rfl) (by kernel_rfl) (by kernel_rfl) (by kernel_rfl) (fun _ _ _ h => h) (Or.inl ⟨by rfl, ?_⟩) (by assumption) ?_
          rotate_left
          · intro w _; go_simp; try with_reducible rfl
          try simp only [Act.put]
          try simp only [List.setIfInBounds_toArray]
          try simp only [List.set_cons_succ]
          try simp only [List.set_cons_zero]
          refine wpAnyU_takeY (i := 4) (v := ?_) rfl (by kernel_rfl) (by kernel_rfl) (by kernel_rfl) (by kernel_rfl) (fun _ _ _ h => h) (Or.inl ⟨by rfl, ?_⟩) (by assumption) ?_
          rotate_left
          · intro w _; go_simp; try with_reducible rfl
          try simp only [Act.put]
          try simp only [List.setIfInBounds_toArray]
          try simp only [List.set_cons_succ]
          try simp only [List.set_cons_zero]
          refine wpAnyU_take (i := 5) (v := ?_) rfl (by kernel_rfl) (by kernel_rfl) (by kernel_rfl) (by kernel_rfl) (by kernel_rfl) (by kernel_rfl) (fun _ _ _ h => h) (Or.inl ⟨by rfl, ?_⟩) (by assumption) ?_
          rotate_left
          · intro w hSw; obtain ⟨s1, s2⟩ := hSw; go_simp; try with_reducible rfl
          try simp only [Act.put]
          try simp only [List.setIfInBounds_toArray]
          try simp only [List.set_cons_succ]
          try simp only [List.set_cons_zero]
          refine wpAnyU_takeY (i := 7) (v := ?_) rfl (by kernel_rfl) (by kernel_rfl) (by kernel_rfl) (by kernel_rfl) (fun _ _ _ h => h) (Or.inl ⟨by rfl, ?_⟩) (by assumption) ?_
          rotate_left
          · intro w _; go_simp; try with_reducible rfl
          try simp only [Act.put]
          try simp only [List.setIfInBounds_toArray]
          try simp only [List.set_cons_succ]
          try simp only [List.set_cons_zero]
          refine wpAnyU_ready (rs := [6]) (by kernel_rfl) (by simp) ?_
          refine AllReadyU.cons rfl (fun K hK => ?_) AllReadyU.nil
          go_simp
          refine (HNO.out _).mono ?_; rintro e w2 ⟨rfl, hf2⟩
          have HF2 := Lib.hid hf2
          clear hf2 hK
          go_wp2_with fail
          exact ⟨rfl, HOut.out _ ((HWX.out.drew.keep HF2.out.bel).sub (List.sublist_cons_self _ _))⟩
        | some q =>
          have HNO := Lib.hid (numOkC z (by unfold maxLen; omega) hnb)
          have HX : Hid (deedX 1 l = some (q, y, emB)) := Lib.hid (by simp [deedX, hnb, HV1.out, HV2.out])
          clear hnb
          go_wp2_with fail
          have hSd : (fun w' : World => w'.cell? ⟨ab, ao + 1, none⟩ = some (.string y) ∧ w'.cell? ⟨ab, ao + 2, none⟩ = some (.string z)) WX.drew := ⟨x1, x2⟩
          refine wp_region_U [] (fun w' : World => w'.cell? ⟨ab, ao + 1, none⟩ = some (.string y) ∧ w'.cell? ⟨ab, ao + 2, none⟩ = some (.string z)) (by kernel_rfl) ?_
          refine wpAnyU_takeY (i := 0) (v := ?_) rfl (by kernel_rfl) (by kernel_rfl) (by kernel_rfl) (by kernel_rfl) (fun _ _ _ h => h) (Or.inl ⟨by rfl, ?_⟩) (by assumption) ?_
          rotate_left
          · intro w _; go_simp; try with_reducible rfl
          try simp only [Act.put]
          try simp only [List.setIfInBounds_toArray]
          try simp only [List.set_cons_succ]
          try simp only [List.set_cons_zero]
          refine wpAnyU_takeY (i := 1) (v := ?_) rfl (by kernel_rfl) (by kernel_rfl) (by kernel_rfl) (by kernel_rfl) (fun _ _ _ h => h) (Or.inl ⟨by rfl, ?_⟩) (by assumption) ?_
          rotate_left
          · intro w _; go_simp; try with_reducible rfl
          try simp only [Act.put]
          try simp only [List.setIfInBounds_toArray]
          try simp only [List.set_cons_succ]
          try simp only [List.set_cons_zero]
          refine wpAnyU_take (i := 2) (v := ?_) rfl (by kernel_rfl) (by kernel_rfl) (by kernel_rfl) (by kernel_rfl) (by kernel_rfl) (by kernel_rfl) (fun _ _ _ h => h) (Or.inl ⟨by rfl, ?_⟩) (by assumption) ?_
          rotate_left
          · intro w hSw; obtain ⟨s1, s2⟩ := hSw; go_simp; try with_reducible rfl
          try simp only [Act.put]
          try simp only [List.setIfInBounds_toArray]
          try simp only [List.set_cons_succ]
          try simp only [List.set_cons_zero]
          refine wpAnyU_takeY (i := 3) (v := ?_) rfl (by kernel_rfl) (by kernel_rfl) (by kernel_rfl) (by kernel_rfl) (fun _ _ _ h => h) (Or.inl ⟨by rfl, ?_⟩) (by assumption) ?_
          rotate_left
          · intro w _; go_simp; try with_reducible rfl
          try simp only [Act.put]
          try simp only [List.setIfInBounds_toArray]
          try simp only [List.set_cons_succ]
          try simp only [List.set_cons_zero]
          refine wpAnyU_takeY (i := 4) (v := ?_) rfl (by kernel_rfl) (by kernel_rfl) (by kernel_rfl) (by kernel_rfl) (fun _ _ _ h => h) (Or.inl ⟨by rfl, ?_⟩) (by assumption) ?_
          rotate_left
          · intro w _; go_simp; try with_reducible rfl
          try simp only [Act.put]
          try simp only [List.setIfInBounds_toArray]
          try simp only [List.set_cons_succ]
          try simp only [List.set_cons_zero]
          refine wpAnyU_take (i := 5) (v := ?_) rfl (by kernel_rfl) (by kernel_rfl) (by kernel_rfl) (by kernel_rfl) (by kernel_rfl) (by kernel_rfl) (fun _ _ _ h => h) (Or.inl ⟨by rfl, ?_⟩) (by assumption) ?_
          rotate_left
          · intro w hSw; obtain ⟨s1, s2⟩ := hSw; go_simp; try with_reducible rfl
          try simp only [Act.put]
          try simp only [List.setIfInBounds_toArray]
          try simp only [List.set_cons_succ]
          try simp only [List.set_cons_zero]
          refine wpAnyU_takeY (i := 7) (v := ?_) rfl (by kernel_rfl) (by kernel_rfl) (by kernel_rfl) (by kernel_rfl) (fun _ _ _ h => h) (Or.inl ⟨by rfl, ?_⟩) (by assumption) ?_
          rotate_left
          · intro w _; go_simp; try with_reducible rfl
          try simp only [Act.put]
          try simp only [List.setIfInBounds_toArray]
          try simp only [List.set_cons_succ]
          try simp only [List.set_cons_zero]
          refine wpAnyU_ready (rs := [6]) (by kernel_rfl) (by simp) ?_
          refine AllReadyU.cons rfl (fun K hK => ?_) AllReadyU.nil
          go_simp
          refine (HNO.out _).mono ?_; rintro e w2 ⟨rfl, hf2⟩
          have HW3 := Lib.hid (HWX.out.drew.keep hf2.bel)
          obtain ⟨c0, c1, c2, c3, hX2⟩ := @Hw.deed _ _ _ _ _ HW3.out X 1 0 ⟨#[]⟩ ⟨#[]⟩ (by simp)
          have y1 := HW3.out.deedZ 1
          have y2 := HW3.out.deedZ 2
          have y3 := HW3.out.deedZ 3
          have q1 := ((bcell hf2.bel).1 ab (ao + 1) (show ab < WX.heap.size by omega)).trans x1
          have q2 := ((bcell hf2.bel).1 ab (ao + 2) (show ab < WX.heap.size by omega)).trans x2
          have hS2 : (fun w' : World => w'.cell? ⟨ab, ao + 1, none⟩ = some (.string y) ∧ w'.cell? ⟨ab, ao + 2, none⟩ = some (.string z)) w2 := ⟨q1, q2⟩
          clear hf2 d0 d1 d2 d3 z1 z2 z3 hSd
          refine hK.out _ _ (fun _ => hS2) ?_
          clear hK K
          try simp only [Act.put]
          try simp only [List.setIfInBounds_toArray]
          try simp only [List.set_cons_succ]
          try simp only [List.set_cons_zero]
          refine wpAnyU_ready (rs := [8]) (by kernel_rfl) (by simp) ?_
          refine AllReadyU.cons rfl (fun K hK => ?_) AllReadyU.nil
          go_simp
          have hS3 : (fun w' : World => w'.cell? ⟨ab, ao + 1, none⟩ = some (.string y) ∧ w'.cell? ⟨ab, ao + 2, none⟩ = some (.string z)) (w2.setCell ⟨X, 2, none⟩ (.string y)) := ⟨(World.cell?_setCell_other _ _ _ _ (by intro h; simp only [Addr.mk.injEq] at h; omega)).trans hS2.1, (World.cell?_setCell_other _ _ _ _ (by intro h; simp only [Addr.mk.injEq] at h; omega)).trans hS2.2⟩
          refine hK.out _ _ (fun _ => hS3) ?_
          clear hK K
          try simp only [Act.put]
          try simp only [List.setIfInBounds_toArray]
          try simp only [List.set_cons_succ]
          try simp only [List.set_cons_zero]
          refine wpAnyU_takeY (i := 9) (v := ?_) rfl (by kernel_rfl) (by kernel_rfl) (by kernel_rfl) (by kernel_rfl) (fun _ _ _ h => h) (Or.inl ⟨by rfl, ?_⟩) (by assumption) ?_
          rotate_left
          · intro w _; go_simp; try with_reducible rfl
          try simp only [Act.put]
          try simp only [List.setIfInBounds_toArray]
          try simp only [List.set_cons_succ]
          try simp only [List.set_cons_zero]
          refine wpAnyU_ready (rs := [10]) (by kernel_rfl) (by simp) ?_
          refine AllReadyU.cons rfl (fun K hK => ?_) AllReadyU.nil
          go_simp
          have hS4 : (fun w' : World => w'.cell? ⟨ab, ao + 1, none⟩ = some (.string y) ∧ w'.cell? ⟨ab, ao + 2, none⟩ = some (.string z)) ((w2.setCell ⟨X, 2, none⟩ (.string y)).setCell ⟨X, 1, none⟩ (.int .i64 q)) := ⟨(World.cell?_setCell_other _ _ _ _ (by intro h; simp only [Addr.mk.injEq] at h; omega)).trans hS3.1, (World.cell?_setCell_other _ _ _ _ (by intro h; simp only [Addr.mk.injEq] at h; omega)).trans hS3.2⟩
          refine hK.out _ _ (fun _ => hS4) ?_
          clear hK K
          try simp only [Act.put]
          try simp only [List.setIfInBounds_toArray]
          try simp only [List.set_cons_succ]
          try simp only [List.set_cons_zero]
          refine wpAnyU_done (by kernel_rfl) ?_ _
          go_wp2_with fail
          go_meet
          exact Lib.hid ⟨q, _, _, HX.out, ((HW3.out.setNm y).setN q)⟩
    case rest =>
      obtain ⟨n', nm, tn, hx, hw⟩ := hcut.out
      obtain ⟨D', do', ed, hDl, e0⟩ := (hw.saN (T := 35) (c := 1) (List.mem_cons_of_mem _ hd)).at 0 (by simp)
      cases ed
      simp only [Nat.add_zero, List.getElem?_cons_zero] at e0
      obtain ⟨c0, c1, c2, c3, hX2⟩ := @Hw.deed _ _ _ _ _ hw X k n' nm tn (by simp)
      have hnl : nm.size ≤ maxLen := by
        have := deedX_nm hs hx
        unfold maxLen; omega
      have HC : Hid (∀ (V : World) (C : List Big), Hw w0 V H s C → Calls Tryd.prog 31 #[.pointer (some ⟨H, 0, .none⟩), .agg #[.int .i64 k, .int .i64 n', .string nm, .string tn]] V
        (ToldW w0 H (doS s k n' nm tn).s C (doS s k n' nm tn).nm (doS s k n' nm tn).n (doS s k n' nm tn).er)) := Lib.hid (fun V C hV => halDo H s C K k n' nm tn hV ok (by omega) hnl)
      obtain ⟨R, hR⟩ : ∃ R, doS s k n' nm tn = R := ⟨_, rfl⟩
      rw [hR] at HC
      have HE : Hid (deedR s k l = (R.s, tellB k R)) := Lib.hid (by unfold deedR; rw [hx]; show ((doS s k n' nm tn).s, tellB k (doS s k n' nm tn)) = _; rw [hR])
      have HBD := Lib.hid (show RBd k R from hR ▸ doS_bd ok hK hnb k n' nm tn)
      have HW4 := Lib.hid hw
      obtain ⟨Rs, Rn, Rm, Re⟩ := R
      simp only [] at HC HE HBD
      clear hw hx hcut hnl hR ok hs hK hn1 h1 hnb hl
      go_wp2_with fail
      go_cut [10, 11] from 10 to 85 (fun t er wx => ∃ N2 : Nat, t = .pointer (some ⟨N2, 0, none⟩) ∧ er = .int .i64 Re ∧ Hid (Hw w0 wx H Rs (eT N2 Rn Rm :: B)))
      case first =>
        go_region_with (go_at_call 31; first | (refine (HC.out _ _ HW4.out.drew).mono ?_; rintro e w5 ⟨rfl, hw5⟩; have HW5 := Lib.hid hw5; clear hw5) | (refine (HC.out _ _ (HW4.out.drew.newToldN ⟨#[]⟩ 0 (N := wc.heap.size) rfl)).mono ?_; rintro e w5 ⟨rfl, hw5⟩; have HW5 := Lib.hid hw5; clear hw5; obtain ⟨t0, t1, tz0, tz1⟩ := HW5.out.told (nm := ⟨#[]⟩) (n := 0) List.mem_cons_self))
        all_goals
          go_wp2_with fail
          go_meet
          first
            | exact ⟨_, rfl, rfl, Lib.hid ((HW5.out.newToldN ⟨#[]⟩ 0 rfl).setTold.sub ((List.sublist_cons_self _ _).cons_cons _))⟩
            | exact ⟨_, rfl, rfl, Lib.hid (HW5.out.setTold.sub ((List.sublist_cons_self _ _).cons_cons _))⟩
            | exact ⟨_, rfl, rfl, Lib.hid ((HW5.out.newToldN Rn Rm rfl).sub ((List.sublist_cons_self _ _).cons_cons _))⟩
      case rest =>
      obtain ⟨N2, rfl, rfl, HW6⟩ := hcut
      clear e0 c0 c1 c2 c3 HC HW4
      by_cases hre : Re = 0
      · subst hre
        have hto : tellB k ⟨Rs, Rn, Rm, 0⟩ = if k = 1 ∨ k = 2 ∨ k = 3 then .ok okB else .ok (bs (Rn.data.toList ++ 32 :: Lib.itoa Rm)) := by unfold tellB; rw [if_neg (by simp)]
        by_cases hk3 : k = 1 ∨ k = 2 ∨ k = 3
        · rw [if_pos hk3] at hto
          have HO : Hid (∀ w', Hw w0 w' H Rs B → DeedSaid w0 H s B l (.returned (.tuple #[.string okB, .bool true])) w') := Lib.hid (fun w' hh => HIN.out _ _ (by
            unfold DeedIn
            rw [HE.out, hto]
            exact ⟨hh, .inl ⟨_, rfl, rfl⟩⟩))
          clear HE hto hkk
          go_wp2_with fail
          refine (must0 _).mono ?_; rintro e w7 ⟨rfl, rfl⟩
          rcases hk3 with rfl | rfl | rfl
          all_goals
            go_wp2_with fail
            go_ret2
            exact HO.out _ (HW6.out.sub (List.sublist_cons_self _ _))
        · rw [if_neg hk3, ← show Rn ++ ⟨#[32]⟩ ++ bs (Lib.itoa Rm) = bs (Rn.data.toList ++ 32 :: Lib.itoa Rm) from by rw [show Rn = bs Rn.data.toList from rfl, show (⟨#[32]⟩ : ByteArray) = bs [32] from rfl, bs_app, bs_app]; simp [bs_data]] at hto
          have HO : Hid (∀ w', Hw w0 w' H Rs B → DeedSaid w0 H s B l (.returned (.tuple #[.string (Rn ++ ⟨#[32]⟩ ++ bs (Lib.itoa Rm)), .bool true])) w') := Lib.hid (fun w' hh => HIN.out _ _ (by
            unfold DeedIn
            rw [HE.out, hto]
            exact ⟨hh, .inl ⟨_, rfl, rfl⟩⟩))
          obtain ⟨b1', b2', b3'⟩ := HBD.out hk3
          have d1 : (k == 1) = false := beq_eq_false_iff_ne.2 (fun h => hk3 (.inl h))
          have d2 : (k == 2) = false := beq_eq_false_iff_ne.2 (fun h => hk3 (.inr (.inl h)))
          have d3 : (k == 3) = false := beq_eq_false_iff_ne.2 (fun h => hk3 (.inr (.inr h)))
          clear HE hto hkk hk3
          go_wp2_with fail
          refine (must0 _).mono ?_; rintro e w7 ⟨rfl, rfl⟩
          obtain ⟨t0, t1, tz0, tz1⟩ := HW6.out.told (N := N2) (nm := Rn) (n := Rm) List.mem_cons_self
          go_wp2_with fail
          have hzz : (bs (Lib.itoa Rm)).size ≤ 21 := by rw [bs_size]; exact Lib.itoa_length_le Rm (by omega) (by omega)
          have HI := Lib.hid (itoaC Rm (by omega) (by omega) wc.drew (HT.out.keep HW6.out.drew.belowN))
          clear HBD HKW tz0 tz1 hk1 hk2 x0 g0 g1 HIN
          go_region_with (go_at_call 17; refine HI.out.mono ?_; rintro e w8 ⟨rfl, hf8⟩; have HW8 := Lib.hid (HW6.out.drew.keep hf8.bel); obtain ⟨q0, q1, -, -⟩ := HW8.out.told (N := N2) (nm := Rn) (n := Rm) List.mem_cons_self; clear hf8)
          all_goals
            go_wp2_with fail
            go_ret2
            exact HO.out _ (HW8.out.sub (List.sublist_cons_self _ _))
      · have hto : tellB k ⟨Rs, Rn, Rm, Re⟩ = .error Re := by unfold tellB; rw [if_pos hre]
        have HO : Hid (∀ w', Hw w0 w' H Rs B → DeedSaid w0 H s B l (.panicked (refL Re)) w') := Lib.hid (fun w' hh => HIN.out _ _ (by
            unfold DeedIn
            rw [HE.out, hto]
            exact ⟨hh, .inr ⟨_, rfl, rfl⟩⟩))
        have HRE := Lib.hid (mustE Re hre)
        clear HE hto hkk hre
        go_wp2_with fail
        refine (HRE.out _).mono ?_; rintro e w7 ⟨rfl, rfl⟩
        go_wp2_with fail
        exact ⟨rfl, HO.out _ (HW6.out.sub (List.sublist_cons_self _ _))⟩
  · have g1 : ((n : Int) != v) = true := by rw [bne_iff_ne]; exact hnv
    have HV : Hid ((l.length : Int) ≠ v) := Lib.hid (by rw [HN.out]; exact hnv)
    have HK0 := Lib.hid hk0
    clear hnv hk0
    go_wp2_with fail
    refine (mustE 10 (by decide) _).mono ?_; rintro e w' ⟨rfl, rfl⟩
    go_wp2_with fail
    refine ⟨rfl, ?_⟩
    rw [HS.out]
    exact .inr (.inl ⟨HK0.out, HV.out, rfl, HW2.out⟩)
end Go.Proofs.YtbolgfiafbhicaaDoor
