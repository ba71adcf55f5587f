/- Several of my texts in one: OrbG. -/
import Derived.Test.YtooghdnlaonkaaaRw23
import Derived.Test.YtooghdnlaonkaaaRw48
import Derived.Test.YtooghdnlaonkaaaRw49
import Derived.Deep.CutRange
/- orbits.Group of orders. -/
namespace Go.Proofs.Ytooghdnlaonkaaa
open Go.RowKit Go.Maps

/-- an entry of a map's literal -/
theorem wpList_insert_own {H : Type} {P : Program} (w : World) {ops : Array Oper} {rest : List Oper} {o : Oper} {a : Act} {Q : Exit → Act → World → Prop}
    (hg : o.guard = none) (m x v : Operand) (t : TypeId) (hop : o.op = Op.insert t m x v)
    (k e : TypeId) (K : Keyed P k) (ht : P.underlying t = some (.map k e)) (R : Value → Option (DataW H × List MemPlace)) (b n : Nat) (D : DataW H)
    (hm : a.eval m = .map (some b)) (hown : w.ownsMap P k R b n D) (hn : n < maxLen) (key val : Value) (kl : Lit) (hx : a.eval x = key) (hv : a.eval v = val) (hkey : keyOf P k key = some kl)
    (d : DataW H) (ps : List MemPlace) (hval : R val = some (d, ps))
    (hK : ∀ w', w'.ownsMap P k R b (n + 1) (D.put kl d) → w.grownBy w' (some b) → wpList P ops Q rest (a.put o.dst undef) w') :
    wpList P ops Q (o :: rest) a w := by
  refine wpList_plain hg fun K' hK' => ?_
  obtain ⟨w', hrun, r1, r2⟩ := hown.update K ht hn hkey hval
  unfold Oper.wp
  simp [execOp, hop, hm, hx, hv, hrun, Result.andThen]
  exact hK' _ _ (hK w' r1 r2)
abbrev outB (ad : Option Addr) (n cap : Nat) (R : List Rw) : Big := ⟨32, 1, n, .slice ad n cap, R.map rv⟩
abbrev reB (p : Rw) : Big := ⟨3, 1, p.2.2.length, rv p, ints p.2.2⟩
theorem big_re (p : Rw) : (re p).big = reB p := by
  show (⟨3, 1, (ints p.2.2).length, rv p, ints p.2.2⟩ : Big) = _
  rw [ints_len]
theorem big_re' (ad : Option Addr) (cp k : Nat) {l : List Int} (h : l.length = k) : (⟨3, .slice ad k cp, ints l⟩ : Ent).big = reB (ad, cp, l) := by
  subst h
  exact big_re (ad, cp, l)
theorem Fg.rm {w0 w : World} {B : List Big} (h : Fg w0 w B) {ad : Option Addr} {n cap : Nat} {R : List Rw} (h1 : outB ad n cap R ∈ B) (h2 : ∀ p ∈ R, reB p ∈ B) : Rm w ad R :=
  ⟨h.sa h1, fun p hp => h.sa (h2 p hp)⟩
theorem pn_sml {n : Nat} (h6 : n ≤ 6) {p : List Int} (h : Pn n p) : Sml p := ⟨by rw [h.1]; exact h6, fun x hx => by
  obtain ⟨i, hi, e⟩ := List.getElem_of_mem hx
  have := h.2.bd i hi
  have e2 : nth p i = x := by simp [nth, hi, e]
  rw [h.1] at this; omega⟩
theorem fac6 : ∀ n, n ≤ 6 → facN n ≤ 720 := by decide
/-- so far: what has been found is made by them; of the first k all turns are there, of the next the first j -/
structure GInv (n : Nat) (ls L : List (List Int)) (k j : Nat) : Prop where
  nd : L.Nodup
  gen : ∀ q ∈ L, Gen n ls q
  one : oneP n ∈ L
  done : ∀ i (h : i < L.length), i < k → ∀ p ∈ ls, tmL p L[i] ∈ L
  next : ∀ (h : k < L.length) i (hi : i < ls.length), i < j → tmL ls[i] L[k] ∈ L
namespace GInv
variable {n k j : Nat} {ls L : List (List Int)} (H : GInv n ls L k j)
theorem start (n : Nat) (ls : List (List Int)) : GInv n ls [oneP n] 0 0 :=
  ⟨by simp, fun q hq => by rw [List.mem_singleton] at hq; subst hq; exact .one, by simp, fun i _ hi => by omega, fun _ i _ hi => by omega⟩
include H
theorem len (hp : AllPn n ls) : L.length ≤ facN n := by
  rw [← allP_len n]
  exact H.nd.length_le_of_subset fun q hq => (allP_mem n q).2 ((H.gen q hq).ok hp)
/-- the next turn is there already -/
theorem has (hk : k < L.length) (hj : j < ls.length) (h : tmL ls[j] L[k] ∈ L) : GInv n ls L k (j + 1) :=
  ⟨H.nd, H.gen, H.one, H.done, fun hk i hi hij => by
    by_cases e : i = j
    · subst e; exact h
    · exact H.next hk i hi (by omega)⟩
/-- .. or is added -/
theorem add (hk : k < L.length) (hj : j < ls.length) (h : tmL ls[j] L[k] ∉ L) : GInv n ls (L ++ [tmL ls[j] L[k]]) k (j + 1) := by
  have hget : ∀ i (hi : i < L.length), (L ++ [tmL ls[j] L[k]])[i]'(by rw [List.length_append]; omega) = L[i] := fun i hi => List.getElem_append_left hi
  refine ⟨?_, fun q hq => ?_, List.mem_append_left _ H.one, fun i hi hik p hp => ?_, fun _ i hi hij => ?_⟩
  · rw [List.nodup_append]
    refine ⟨H.nd, by simp, fun a ha b hb e => ?_⟩
    rw [List.mem_singleton] at hb
    subst e hb
    exact h ha
  · rcases List.mem_append.1 hq with hq | hq
    · exact H.gen q hq
    · rw [List.mem_singleton] at hq
      subst hq
      exact .step _ _ (List.getElem_mem hj) (H.gen _ (List.getElem_mem hk))
  · rw [hget i (by omega)]
    exact List.mem_append_left _ (H.done i (by omega) hik p hp)
  · rw [hget k hk]
    by_cases e : i = j
    · subst e; simp
    · exact List.mem_append_left _ (H.next hk i hi (by omega))
theorem step (hj : j = ls.length) : GInv n ls L (k + 1) 0 :=
  ⟨H.nd, H.gen, H.one, fun i hi hik p hp => by
    by_cases e : i = k
    · subst e
      obtain ⟨t, ht, rfl⟩ := List.getElem_of_mem hp
      exact H.next hi t ht (by omega)
    · exact H.done i hi (by omega) p hp, fun _ i _ hi => by omega⟩
/-- all of them -/
theorem all (hk : k = L.length) : ∀ q, q ∈ L ↔ Gen n ls q := fun q => by
  refine ⟨H.gen q, fun hg => ?_⟩
  induction hg with
  | one => exact H.one
  | step p q hp _ ih =>
    obtain ⟨i, hi, rfl⟩ := List.getElem_of_mem ih
    exact H.done i hi (by omega) p hp
end GInv
/-- what the group's rows are: in rows of their own -/
def GrpSaid (n : Nat) (ls : List (List Int)) (w : World) (e : Ending) (w' : World) : Prop :=
  ∃ (ad : Option Addr) (cp : Nat) (R : List Rw), e = .returned (.tuple #[.slice ad R.length cp, .int .i64 0]) ∧ Fr w w' (outE ad R.length cp R :: R.map re) ∧ IsGrp n ls (lsR R)
set_option maxRecDepth 100000 in
set_option maxHeartbeats 8000000 in
theorem orbGroup (n : Nat) (R0 : List Rw) (m : Nat) (a : Option Addr) (cap : Nat) (w : World) (h : Rm w a R0) (hm : R0.length = m) (n6 : n ≤ 6) (m6 : m ≤ 6) (hp : AllPn n (lsR R0)) :
    Calls Try.prog 28 #[.int .i64 n, .slice a m cap] w (GrpSaid n (lsR R0) w) := by
  have HR := Lib.hid h; have HM := Lib.hid hm; have HP := Lib.hid hp
  have HC := Lib.hid (orbChk n R0 m a cap w h hm n6 m6 hp)
  have hmk := make_ints n (by omega)
  have hmm := @run_makeMap Try.prog
  have HT : Hid (fillK (fun i => (i : Int)) n n = oneP n) := Lib.hid (by
    refine ext_nth (by rw [fillK_len, oneP_len]) fun i hi => ?_
    rw [fillK_len] at hi
    rw [fillK_nth _ _ _ _ hi, if_pos hi, oneP_nth _ _ hi])
  have HPN := Lib.hid (Pn.one n)
  have HS1 := Lib.hid (pn_sml n6 (Pn.one n))
  clear h hm hp
  go_enter Try.func28, Try.ntmps28
  go_wp2_with fail
  refine HC.out.mono ?_; rintro e w1 ⟨rfl, F1⟩
  go_wp2_with fail
  have F3 := F1.makeInts n (by omega)
  rw [fillK_zero (fun i => (i : Int)) n] at F3
  obtain ⟨G, hG⟩ : ∃ G, w1.heap.size = G := ⟨_, rfl⟩
  rw [hG] at F3 ⊢
  have HF3 := Lib.hid F3
  clear F1 F3 hmk HC
  go_loopw [26] (fun i wr => ∃ k : Nat, k ≤ n ∧ i = .int .i64 k ∧ Hid (Fr w wr [⟨3, .slice (some ⟨G, 0, none⟩) n n, ints (fillK (fun i => (i : Int)) n k)⟩])) (fun i _ => n - (intOf i).toNat)
  case atStart => exact ⟨0, by omega, rfl, HF3⟩
  case round =>
    clear HF3
    obtain ⟨k, hk, rfl, HF⟩ := hrel
    by_cases hlt : k < n
    · obtain ⟨_, e, _, c1, z1⟩ := HF.out.openI k (by rw [fillK_len]; exact hlt)
      cases e
      have F4 := HF.out.setInt k (k : Int)
      rw [fillK_set (fun i => (i : Int)) n k hlt] at F4
      have HF4 := Lib.hid F4
      obtain ⟨u, hu⟩ : ∃ u, nth (fillK (fun i => (i : Int)) n k) k = u := ⟨_, rfl⟩
      rw [hu] at c1
      clear F4 hu
      have d1 : (0 : Int) ≤ (k : Int) := by omega
      have d2 : (k : Int) < (n : Int) := by omega
      go_wp2_with fail
      exact ⟨⟨k + 1, by omega, by simp, HF4⟩, by simp only [intOf]; omega⟩
    · obtain rfl : k = n := by omega
      have hF := HF.out
      rw [HT.out] at hF
      have HF0 := Lib.hid hF
      clear hF HF HT
      obtain ⟨B, hB⟩ : ∃ B, wr.heap.size = B := ⟨_, rfl⟩
      have hw := (Fg.of HF0.out).newMapQ hB
      have HO := Lib.hid (OwnK.start (n := k) wr)
      rw [hB] at HO
      have HW := Lib.hid hw
      have HK := Lib.hid (orbKey (oneP k) k (some ⟨G, 0, none⟩) k (wr.alloc (.map #[] 0)) ((HF0.out.alloc _).get 0 rfl) (oneP_len k) n6)
      clear hw HF0
      go_wp2_with (first | (go_at_call 83; refine HK.out.mono ?_; rintro e w2 ⟨rfl, hf2⟩; have hw2 := HW.out.keep hf2.bel; have HO2 := Lib.hid (HO.out.keep (map_keptQ HW.out hw2 List.mem_cons_self List.mem_cons_self)); have HW2 := Lib.hid hw2; clear hf2 hw2 HW HO HK) | (refine wpList_insert_own _ rfl (.tmp 34) (.tmp 36) (.const (.int .i64 1)) 121 rfl 119 3 lawA Try.underlying121 _ B 0 (.map []) rfl HO2.out.own (by unfold maxLen; omega) _ _ _ rfl rfl (kyA_of HS1.out) _ [] (plainElem_int Try.underlying3 (WalkArith.wf_i64 (by omega))) ?_; intro w3 hown3 hgrow3; have HO3 := Lib.hid (HO2.out.put (oneP_len k) HS1.out hown3); have HW3 := Lib.hid (HW2.out.setMapQ rfl hgrow3 HO3.out.block); clear hown3 hgrow3 HW2))
      clear hmm
      obtain ⟨ys, hw3⟩ := HW3.out
      have hw4 := (hw3.new 32 #[.slice (some ⟨G, 0, none⟩) k k] [.slice (some ⟨G, 0, none⟩) k k] rfl w3.heap.size rfl 1 rfl (by omega))
      have HS0 : Hid (Fg w (w3.alloc (.cells #[.slice (some ⟨G, 0, none⟩) k k] 32)) (eMapQ B ys :: outB (some ⟨w3.heap.size, 0, none⟩) 1 1 [(some ⟨G, 0, none⟩, k, oneP k)] :: [(some ⟨G, 0, none⟩, k, oneP k)].map reB)) := Lib.hid (by
        have h5 := hw4.perm (.swap _ _ _)
        rw [List.map_singleton, big_re' _ _ k (oneP_len k)] at h5
        have e1 : outB (some ⟨w3.heap.size, 0, none⟩) 1 1 [(some ⟨G, 0, none⟩, k, oneP k)] = ⟨32, 1, 1, .slice (some ⟨w3.heap.size, 0, none⟩) 1 1, [.slice (some ⟨G, 0, none⟩) k k]⟩ := by simp [outB, rv, oneP_len]
        rw [e1, List.map_singleton]
        exact h5)
      have HO4 : Hid (OwnK k B 1 ((DataW.map []).put (kyA (oneP k)) (dK 1)) (lsR [(some ⟨G, 0, none⟩, k, oneP k)]) (w3.alloc (.cells #[.slice (some ⟨G, 0, none⟩) k k] 32))) := Lib.hid (HO3.out.keep (map_keptQ hw3 hw4 List.mem_cons_self (List.mem_cons_of_mem _ List.mem_cons_self)))
      have HI0 : Hid (GInv k (lsR R0) (lsR [(some ⟨G, 0, none⟩, k, oneP k)]) 0 0) := Lib.hid (GInv.start k (lsR R0))
      clear hw3 hw4 HO3 HW3 HO2
      go_loopw [10, 11] (fun o i wr => ∃ (R : List Rw) (r q : Nat) (ad : Option Addr) (cp : Nat) (D : DataW Unit) (ys : List Value), o = .slice ad r cp ∧ i = .int .i64 q ∧ q ≤ r ∧ Hid (R.length = r) ∧ Hid (GInv k (lsR R0) (lsR R) q 0) ∧ Hid (Fg w wr (eMapQ B ys :: outB ad r cp R :: R.map reB)) ∧ Hid (OwnK k B r D (lsR R) wr)) (fun _ i _ => 721 - (intOf i).toNat)
      case atStart => exact ⟨_, 1, 0, _, _, _, _, rfl, rfl, by omega, Lib.hid rfl, HI0, HS0, HO4⟩
      case round =>
        clear HI0 HS0 HO4
        obtain ⟨R, r, q, ad, cp, D, ys, rfl, rfl, hqr, HRl, HI, HW, HO⟩ := hrel
        have hr720 : r ≤ 720 := by
          have h1 := HI.out.len HP.out
          rw [lsR_len, HRl.out] at h1
          have h2 := fac6 k n6
          omega
        by_cases hlt : q < r
        · have d1 : (q : Int) < (r : Int) := by omega
          go_wp2_with fail
          clear d1
          go_loopw [10, 48] (fun o i wr => ∃ (R : List Rw) (r j : Nat) (ad : Option Addr) (cp : Nat) (D : DataW Unit) (ys : List Value), o = .slice ad r cp ∧ i = .int .i64 j ∧ j ≤ m ∧ q < r ∧ Hid (R.length = r) ∧ Hid (GInv k (lsR R0) (lsR R) q j) ∧ Hid (Fg w wr (eMapQ B ys :: outB ad r cp R :: R.map reB)) ∧ Hid (OwnK k B r D (lsR R) wr)) (fun _ i _ => m - (intOf i).toNat)
          case atStart => exact ⟨R, r, 0, _, _, D, ys, rfl, rfl, by omega, hlt, HRl, HI, HW, HO⟩
          case round =>
            clear HRl HI HW HO hr720 hlt hqr
            obtain ⟨R, r, j, ad, cp, D, ys, rfl, rfl, hj, hqr, HRl, HI, HW, HO⟩ := hrel
            have hr720 : r ≤ 720 := by
              have h1 := HI.out.len HP.out
              rw [lsR_len, HRl.out] at h1
              have h2 := fac6 k n6
              omega
            by_cases hlt : j < m
            · have hjR : j < R0.length := by rw [HM.out]; exact hlt
              have hqR : q < R.length := by rw [HRl.out]; exact hqr
              have hjL : j < (lsR R0).length := by rw [lsR_len]; exact hjR
              have hqL : q < (lsR R).length := by rw [lsR_len]; exact hqR
              obtain ⟨b1, o1, rfl, hb1, c1, s1⟩ := (HR.out.keep HW.out.bel).at j hjR
              obtain ⟨b2, o2, rfl, hb2, c2, s2⟩ := (HW.out.rm (R := R) (List.mem_cons_of_mem _ List.mem_cons_self) (fun p hp => List.mem_cons_of_mem _ (List.mem_cons_of_mem _ (List.mem_map_of_mem hp)))).at q hqR
              have p1 := HP.out _ (List.getElem_mem hjL)
              have p2 := (HI.out.gen _ (List.getElem_mem hqL)).ok HP.out
              have hin := HI.out.has hqL hjL
              have hout := HI.out.add hqL hjL
              simp only [lsR_get R0 j hjR, lsR_get R q hqR] at p1 p2 hin hout
              obtain ⟨⟨x1, y1, l1⟩, hp1⟩ : ∃ p : Rw, R0[j] = p := ⟨_, rfl⟩
              obtain ⟨⟨x2, y2, l2⟩, hp2⟩ : ∃ p : Rw, R[q] = p := ⟨_, rfl⟩
              rw [hp1] at c1 s1
              rw [hp2] at c2 s2
              simp only [hp1] at p1 hin hout
              simp only [hp2] at p2 hin hout
              simp only [rv] at c1 c2
              simp only at s1 s2
              rw [p1.1] at c1
              rw [p2.1] at c2
              have HTm := Lib.hid (permTimes l1 l2 k x1 x2 y1 y2 wr s1 p1.1 p1.2 s2 p2.1 p2.2 (by omega))
              have pt := p1.mul p2
              obtain ⟨t, ht⟩ : ∃ t, tmL l1 l2 = t := ⟨_, rfl⟩
              rw [ht] at HTm pt hin hout
              have HPt := Lib.hid pt
              have HSt := Lib.hid (pn_sml n6 pt)
              have HIn := Lib.hid hin
              have HOut := Lib.hid hout
              clear hin hout p1 p2 s1 s2 hp1 hp2 ht pt hjL hqL hjR hqR HI
              have d1 : (0 : Int) ≤ (j : Int) := by omega
              have d2 : (j : Int) < (m : Int) := by omega
              have d3 : (0 : Int) ≤ (q : Int) := by omega
              have d4 : (q : Int) < (r : Int) := by omega
              go_wp2_with fail
              refine HTm.out.mono ?_; rintro e w5 ⟨x3, y3, rfl, hc3, hf5⟩
              have hw5 := HW.out.call hf5
              have ht5 := hf5.get 0 rfl
              rw [List.map_singleton, big_re' _ _ k HPt.out.1, List.singleton_append] at hw5
              have HO5 := Lib.hid (HO.out.keep (map_keptQ HW.out hw5 List.mem_cons_self (List.mem_cons_of_mem _ List.mem_cons_self)))
              have HW5 := Lib.hid hw5
              have HK5 := Lib.hid (orbKey t k x3 y3 w5 ht5 HPt.out.1 n6)
              clear hf5 hw5 ht5 HTm c1 c2 HO HW d1 d2 d3 d4 HR hb1 hb2
              go_wp2_with fail
              refine HK5.out.mono ?_; rintro e w6 ⟨rfl, hf6⟩
              have hw6 := HW5.out.keep hf6.bel
              have HO6 := Lib.hid (HO5.out.keep (map_keptQ HW5.out hw6 (List.mem_cons_of_mem _ List.mem_cons_self) (List.mem_cons_of_mem _ List.mem_cons_self)))
              have HW6 := Lib.hid hw6
              have hlook := HO6.out.look HPt.out.1 HSt.out
              clear hw6 hf6 HK5 HO5 HW5
              by_cases hin : t ∈ lsR R
              · rw [if_pos hin] at hlook
                have HI2 := Lib.hid (HIn.out hin)
                clear hin HIn HOut
                go_wp2_with fail
                exact ⟨⟨R, r, j + 1, some ⟨b2, o2, none⟩, cp, D, ys, rfl, by simp, by omega, hqr, HRl, HI2, Lib.hid HW6.out.tail, HO6⟩, by simp only [intOf]; omega⟩
              · rw [if_neg hin] at hlook
                have HI2 := Lib.hid (HOut.out hin)
                have HK6 := Lib.hid (orbKey t k x3 y3 w6 (HW6.out.sa (T := 3) (c := 1) (n := k) (cap := y3) (ad := x3) (xs := ints t) (by rw [show reB (x3, y3, t) = ⟨3, 1, k, .slice x3 k y3, ints t⟩ by simp [reB, rv, HPt.out.1]]; exact List.mem_cons_self)) HPt.out.1 n6)
                clear hin HIn HOut
                go_wp2_with (first | (go_at_call 83; refine HK6.out.mono ?_; rintro e w7 ⟨rfl, hf7⟩; have hw7 := HW6.out.keep hf7.bel; have HO7 := Lib.hid (HO6.out.keep (map_keptQ HW6.out hw7 (List.mem_cons_of_mem _ List.mem_cons_self) (List.mem_cons_of_mem _ List.mem_cons_self))); have HW7 := Lib.hid (hw7.perm (.swap _ _ _)); clear hf7 hw7 HW6 HO6 HK6 hlook) | (at_mapUpdate; refine wpList_mapUpdate_own _ rfl (.tmp 66) (.tmp 68) (.const (.int .i64 1)) 121 rfl 119 3 lawA Try.underlying121 _ B r D rfl HO7.out.own (by unfold maxLen; omega) _ _ _ rfl rfl (kyA_of HSt.out) _ [] (plainElem_int Try.underlying3 (WalkArith.wf_i64 (by omega))) ?_; intro w8 hown8 hgrow8; have HO8 := Lib.hid (HO7.out.put HPt.out.1 HSt.out hown8); obtain ⟨ys8, hw8⟩ := HW7.out.setMapQ (by simp [noMapQ, rv]) hgrow8 HO8.out.block; have HW8 := Lib.hid (hw8.perm ((List.Perm.cons _ (List.Perm.swap _ _ _)).trans (List.Perm.swap _ _ _))); clear hown8 hgrow8 HW7 HO7 hw8) | (with_reducible refine at_slot 72 ?_; go_must (refine wpList_pushG rfl (.tmp 69) (.tmp 71) 48 32 (.slice none 0 0) 1 24 Try.underlying48 slsInfo rfl (by omega) (by omega) rfl (some ⟨b2, o2, none⟩) r cp (R.map rv) [.slice x3 k y3] #[.slice x3 k y3] (eMapQ B ys8 :: reB (x3, y3, t) :: R.map reB) rfl HW8.out w8.heap.size rfl rfl rfl rfl (by simp [Value.oneCell']) (by omega) ?_); intro ad9 cp9 w9 hf9 hsz9))
                have HO9 := Lib.hid (HO8.out.keep (map_keptQ (HW8.out) hf9 (List.mem_cons_of_mem _ List.mem_cons_self) (List.mem_cons_of_mem _ List.mem_cons_self)))
                have HW9 : Hid (Fg w w9 (eMapQ B ys8 :: outB ad9 (r + 1) cp9 (R ++ [(x3, y3, t)]) :: (R ++ [(x3, y3, t)]).map reB)) := Lib.hid (by
                  rw [List.map_append, List.map_singleton]
                  have e1 : outB ad9 (r + 1) cp9 (R ++ [(x3, y3, t)]) = ⟨32, 1, r + 1, .slice ad9 (r + 1) cp9, R.map rv ++ [.slice x3 k y3]⟩ := by simp [outB, rv, HPt.out.1]
                  rw [e1]
                  refine hf9.perm ((List.Perm.swap _ _ _).trans (List.Perm.cons _ (List.Perm.cons _ ?_)))
                  exact (List.perm_append_singleton _ _).symm)
                have HO10 : Hid (OwnK k B (r + 1) (D.put (kyA t) (dK 1)) (lsR (R ++ [(x3, y3, t)])) w9) := Lib.hid (by
                  rw [show lsR (R ++ [(x3, y3, t)]) = lsR R ++ [t] by simp [lsR]]; exact HO9.out)
                have HI3 : Hid (GInv k (lsR R0) (lsR (R ++ [(x3, y3, t)])) q (j + 1)) := Lib.hid (by
                  rw [show lsR (R ++ [(x3, y3, t)]) = lsR R ++ [t] by simp [lsR]]; exact HI2.out)
                clear hf9 hsz9 HO9 HO8 HW8
                exact ⟨⟨R ++ [(x3, y3, t)], r + 1, j + 1, ad9, cp9, _, ys8, rfl, by simp, by omega, by omega, Lib.hid (by rw [List.length_append, HRl.out]; rfl), HI3, HW9, HO10⟩, by simp only [intOf]; omega⟩
            · obtain rfl : j = m := by omega
              go_wp2_with fail
              exact ⟨⟨R, r, q + 1, ad, cp, D, ys, rfl, by simp, by omega, HRl, Lib.hid (HI.out.step (by rw [lsR_len, HM.out])), HW, HO⟩, by simp only [intOf]; omega⟩
        · obtain rfl : q = r := by omega
          have hfr : Fr w wr (outE ad q cp R :: R.map re) := HW.out.tail.toFr _ (by
            rw [List.map_cons, List.map_map]
            have e1 : (outE ad q cp R).big = outB ad q cp R := by simp [Ent.big, outB, HRl.out]
            rw [e1]
            congr 1
            exact List.map_congr_left fun p _ => big_re p) (by simp [noMapQ, rv])
          have h0 : 0 < q := by
            have := List.length_pos_of_mem HI.out.one
            rw [lsR_len, HRl.out] at this; exact this
          have hS := sortRows k R q ad cp hfr h0 (by omega) (by omega) (fun p hp => ((HI.out.gen p.2.2 (List.mem_map.2 ⟨p, hp, rfl⟩)).ok HP.out).1) HI.out.nd
          have HSo := Lib.hid hS
          clear hfr hS HW HO
          go_wp2_with fail
          refine HSo.out.mono ?_; rintro e w9 ⟨rfl, R', hpm, hf9, hso⟩
          have hlR : R'.length = q := by rw [hpm.length_eq, HRl.out]
          have HF9 := Lib.hid hf9
          have HG : Hid (IsGrp k (lsR R0) (lsR R')) := Lib.hid ⟨HP.out, hso, fun x => by
            rw [← HI.out.all (by rw [lsR_len, HRl.out]) x]
            exact (hpm.map fun p : Rw => p.2.2).mem_iff⟩
          have HL := Lib.hid hlR
          clear hpm hf9 hso hlR
          go_wp2_with fail
          go_ret2
          exact ⟨ad, cp, R', by rw [HL.out]; rfl, by rw [HL.out]; exact HF9.out, HG.out⟩
end Go.Proofs.Ytooghdnlaonkaaa
