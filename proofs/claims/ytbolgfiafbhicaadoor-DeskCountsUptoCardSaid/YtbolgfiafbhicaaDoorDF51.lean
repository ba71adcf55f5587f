/- Several of my texts in one: Dsk9. -/
import Derived.Test.YtbolgfiafbhicaaDoorDF48
import Derived.Test.YtbolgfiafbhicaaDoorDF49
import Derived.Test.YtbolgfiafbhicaaDoorDF50
/- answer: the words of a line. -/
namespace Go.Proofs.YtbolgfiafbhicaaDoor
open Go.RowKit

/-- a cell of its own that holds a text -/
def eOut (O : Nat) (x : ByteArray) : Big := ⟨9, 1, 1, .slice (some ⟨O, 0, none⟩) 1 1, [.string x]⟩
theorem Hw.newOut {w0 w : World} {H : Nat} {s : HSt} {B : List Big} (h : Hw w0 w H s B) (x : ByteArray) {O : Nat} (hO : w.heap.size = O) : Hw w0 (w.alloc (.cells #[.string x] 9)) H s (eOut O x :: B) := by
  obtain ⟨am, cm, al, cl, hf⟩ := h
  exact Hw.into (hf.new 9 #[.string x] [.string x] rfl O hO 1 rfl (by omega))
theorem Hw.outAt {w0 w : World} {H : Nat} {s : HSt} {B : List Big} {O : Nat} {x : ByteArray} (h : Hw w0 w H s (eOut O x :: B)) : w.cell? ⟨O, 0, none⟩ = some (.string x) ∧ w.frozen? ⟨O, 0, none⟩ = false ∧ O < w.heap.size := by
  obtain ⟨am, cm, al, cl, hf⟩ := h.out
  obtain ⟨g, e, _, h1, h2, h3⟩ := hf.open List.mem_cons_self (by show 0 < 1; omega)
  cases e
  exact ⟨h2 0 (by simp), h3 0, h1⟩
theorem Hw.setOut {w0 w : World} {H : Nat} {s : HSt} {B : List Big} {O : Nat} {x : ByteArray} (h : Hw w0 w H s (eOut O x :: B)) (y : ByteArray) : Hw w0 (w.setCell ⟨O, 0, none⟩ (.string y)) H s (eOut O y :: B) := by
  obtain ⟨am, cm, al, cl, hf⟩ := h.out
  exact Hw.into (hf.set 0 (.string y))
def AnsSaid (w0 : World) (H : Nat) (s : HSt) (B : List Big) (line : ByteArray) (e : Ending) (w' : World) : Prop :=
  e = .returned (.string (ansR s line).2) ∧ Hw w0 w' H (ansR s line).1 B
theorem ansPanic {w0 w : World} {H : Nat} {s s' : HSt} {B : List Big} {O : Nat} {x line : ByteArray} {tm : Array Value} {er : Int} (h0 : -9223372036854775808 ≤ er) (h1 : er ≤ 9223372036854775807) {C : List Big} (h : Hw w0 w H s' (eOut O x :: C)) (hC : B.Sublist C) (ht : TabW w0) (hR : ansR s line = (s', errB er))
    (hres : ∀ (W : World) (v : Value), W.cell? ⟨O, 0, none⟩ = some v → (results Tryd.f12 tm).run Tryd.prog W = .ok v W) :
    bodyPostD Tryd.prog Tryd.f12 (AnsSaid w0 H s B line) (Exit.panic (refL er)) { tmps := tm, defers := [{ target := Target.fn (Fn.func 16) #[Value.pointer (some ⟨O, 0, none⟩)], args := #[] }] } w := by
  show Leaves _ _ _ _ _ _ _
  refine leaves_cons (f := 16) (args := #[.pointer (some ⟨O, 0, none⟩)]) (by simp) (by simp [go_sem]) ?_
  obtain ⟨c1, c2, c3⟩ := h.outAt
  refine (catch_err O er h0 h1 x w (ht.keep h.belowN) c1 c2 c3).mono ?_
  rintro e u' w'' ⟨rfl, rfl, w2, hf, rfl⟩
  have hs := (h.keep hf.bel).setOut (errB er)
  exact ⟨_, hres _ _ hs.outAt.1, by unfold AnsSaid; rw [hR]; exact ⟨rfl, hs.sub (hC.cons _)⟩⟩
theorem ansRet {w0 w : World} {H : Nat} {s s' : HSt} {B : List Big} {O : Nat} {x line : ByteArray} {tm : Array Value} {C : List Big} (h : Hw w0 w H s' (eOut O x :: C)) (hC : B.Sublist C) (hR : ansR s line = (s', x))
    (hres : ∀ (W : World) (v : Value), W.cell? ⟨O, 0, none⟩ = some v → (results Tryd.f12 tm).run Tryd.prog W = .ok v W) :
    bodyPostD Tryd.prog Tryd.f12 (AnsSaid w0 H s B line) Exit.ret { tmps := tm, defers := [{ target := Target.fn (Fn.func 16) #[Value.pointer (some ⟨O, 0, none⟩)], args := #[] }] } w := by
  show Leaves _ _ _ _ _ _ _
  refine leaves_cons (f := 16) (args := #[.pointer (some ⟨O, 0, none⟩)]) (by simp) (by simp [go_sem]) ?_
  refine (catch_idle ⟨O, 0, none⟩ w).mono ?_
  rintro e u' w'' ⟨rfl, rfl, rfl⟩
  exact ⟨_, hres _ _ h.outAt.1, by unfold AnsSaid; rw [hR]; exact ⟨rfl, h.sub (hC.cons _)⟩⟩
theorem leaves_put {tm tm' : Array Value} {R : Ending → World → Prop} (h : results Tryd.f12 tm = results Tryd.f12 tm') : ∀ (ds : List Deferred) (u : FrameMode) (w : World), Leaves Tryd.prog Tryd.f12 tm R ds u w → Leaves Tryd.prog Tryd.f12 tm' R ds u w
  | [], .returning, w, hl => by
    obtain ⟨v, h1, h2⟩ := hl
    exact ⟨v, by rw [← h]; exact h1, h2⟩
  | [], .panicking chain, w, hl => hl
  | [], .run, w, hl => hl
  | d :: ds, u, w, hl => by
    obtain ⟨h1, fv, cap, f, args, h2, h3, h4⟩ := hl
    refine ⟨h1, fv, cap, f, args, h2, h3, h4.mono ?_⟩
    intro e u' w' hh
    cases e with
    | returned v => exact leaves_put h ds _ _ hh
    | panicked c => exact leaves_put h ds _ _ hh
    | outgrown => exact hh
theorem ansPut {KK : Act → World → Prop} {R : Ending → World → Prop} (d : Nat) (hd : d ≠ 4) (v : Value) (c : List PanicEntry) (a : Act) (w : World) (h : Exit.then KK (bodyPostD Tryd.prog Tryd.f12 R) (.panic c) (a.put (some d) v) w) :
    Exit.then KK (bodyPostD Tryd.prog Tryd.f12 R) (.panic c) a w :=
  leaves_put (by simp [results, Tryd.results12, Act.put, hd]) _ _ _ h
theorem cutAt_le (c : UInt8) : ∀ l, ∀ x ∈ cutAt c l, x.length ≤ l.length
  | [], x, hx => by simp [cutAt] at hx; subst hx; simp
  | b :: l, x, hx => by
    have ih := cutAt_le c l
    rw [cutAt] at hx
    split at hx
    · rcases List.mem_cons.1 hx with rfl | hx
      · simp
      · have := ih x hx; rw [List.length_cons]; omega
    · split at hx
      · simp at hx; subst hx; simp
      · rename_i y r hy
        rcases List.mem_cons.1 hx with rfl | hx
        · have := ih y (by rw [hy]; exact List.mem_cons_self); simp only [List.length_cons]; omega
        · have := ih x (by rw [hy]; exact List.mem_cons_of_mem _ hx); rw [List.length_cons]; omega
theorem linesB_sz {c : UInt8} {s x : ByteArray} (h : x ∈ linesB c s) : x.size ≤ s.size := by
  rw [linesB_eq] at h
  obtain ⟨y, hy, rfl⟩ := List.mem_map.1 h
  have := cutAt_le c _ y hy
  rw [bs_size]
  rw [Array.length_toList] at this
  exact this
theorem linesB_ln (c : UInt8) (s : ByteArray) : (linesB c s).length ≤ s.size + 1 := by
  rw [linesB_len, show Lib.countB s ⟨#[c]⟩ = s.data.toList.count c from Lib.count_one c s.data.toList]
  have := List.count_le_length (a := c) (l := s.data.toList)
  rw [Array.length_toList] at this
  exact Nat.add_le_add_right this 1
def keepW (s : ByteArray) : Bool := decide (s.data.toList ≠ [])
theorem strV_snoc (l : List ByteArray) (x : ByteArray) : strV l ++ [.string x] = strV (l ++ [x]) := by unfold strV; rw [List.map_append]; rfl
set_option maxRecDepth 100000 in
set_option maxHeartbeats 16000000 in
theorem deskAnswer {w0 w : World} (H D : Nat) (s : HSt) (B : List Big) (K : Nat) (line : ByteArray) (h : Hw w0 w H s B) (ok : DOk s K) (hK : K ≤ 1000) (hd : eDk D H ∈ B) (hs : line.size ≤ 5000) (ht : TabW w0) :
    Calls Tryd.prog 12 #[.pointer (some ⟨D, 0, none⟩), .string line] w (AnsSaid w0 H s B line) := by
  have hmf : ∀ (fn : Fn) (first cap : Array Value) (w : World), (Instr.makeFunc fn first cap).run Tryd.prog w = .ok (.func fn first cap) w := fun _ _ _ _ => rfl
  obtain ⟨O, hO⟩ : ∃ O, w.heap.size = O := ⟨_, rfl⟩
  have HB := Lib.hid (h.newOut emB hO)
  unfold emB at HB
  have HOK := Lib.hid ok; have HT := Lib.hid ht; have HO := Lib.hid hO
  have HCS := Lib.hid (fun (V : World) (hV : TabW V) => splitC line 32 V (by omega) hV)
  clear h ok ht
  go_enter_defers Tryd.func12, Tryd.ntmps12
  go_wp2_with fail
  have HTW := Lib.hid (HT.out.keep HB.out.belowN)
  refine (HCS.out _ HTW.out).mono ?_; rintro e w1 ⟨N, rfl, hf, hsa⟩
  obtain ⟨L, hL⟩ : ∃ L, linesB 32 line = L := ⟨_, rfl⟩
  rw [hL] at hsa ⊢
  obtain ⟨n, hn⟩ : ∃ n, L.length = n := ⟨_, rfl⟩
  rw [hn]
  have hn1 : n ≤ 5001 := by have := linesB_ln 32 line; rw [hL, hn] at this; omega
  have HB1 := Lib.hid (HB.out.keep hf.bel)
  have HL := Lib.hid hL; have HN := Lib.hid hn; have HSA := Lib.hid hsa
  have HTW := Lib.hid (HT.out.keep HB1.out.belowN)
  have HSZ : Hid (∀ x ∈ L, x.size ≤ 5000) := Lib.hid (fun x hx => Nat.le_trans (linesB_sz (by rw [hL]; exact hx)) hs)
  clear hL hn hsa hf HCS HB HO hO hmf hs
  go_wp2_with fail
  go_loopw [5, 14] (fun o i wr => ∃ (k m : Nat) (ad : Option Addr) (cp : Nat) (l : List ByteArray), k ≤ n ∧ i = .int .i64 k ∧ o = .slice ad m cp ∧ m ≤ k ∧ Hid (l.length = m) ∧ Hid (l = (L.take k).filter keepW) ∧ Hid (Fr w1 wr [⟨9, .slice ad m cp, strV l⟩])) (fun _ i _ => n - (intOf i).toNat)
  case atStart => exact ⟨0, 0, none, 0, [], by omega, rfl, rfl, by omega, Lib.hid rfl, Lib.hid rfl, Lib.hid ((Fr.start w1).nilSlice _)⟩
  case round =>
    obtain ⟨k, m, ad, cp, l, hk, rfl, rfl, hm, HLL, HLK, HF⟩ := hrel
    by_cases hlt : k < n
    · obtain ⟨x, hx⟩ : ∃ x, L[k]? = some x := ⟨_, List.getElem?_eq_getElem (by rw [HN.out]; exact hlt)⟩
      obtain ⟨b, off, hbo, -, x1⟩ := (HF.out.old HSA.out).strA k x hx
      cases hbo
      rw [Nat.zero_add] at x1
      have htk : L.take (k + 1) = L.take k ++ [x] := by rw [List.take_add_one, hx]; rfl
      have d1 : (0 : Int) ≤ (k : Int) := by omega
      have d2 : (k : Int) < (n : Int) := by omega
      by_cases hxe : x.toList = []
      · have HK2 : Hid (l = (L.take (k + 1)).filter keepW) := Lib.hid (by rw [htk, List.filter_append, HLK.out, List.filter_cons_of_neg (by unfold keepW; rw [← ByteArray.toList_eq, hxe]; simp)]; simp)
        clear hx htk HSA
        go_wp2_with fail
        go_roundw
        case rel => exact ⟨k + 1, m, ad, cp, l, by omega, by go_num, rfl, by omega, HLL, HK2, HF⟩
        case measure => simp only [intOf]; omega
      · have HK2 : Hid (l ++ [x] = (L.take (k + 1)).filter keepW) := Lib.hid (by rw [htk, List.filter_append, HLK.out, List.filter_cons_of_pos (by unfold keepW; rw [← ByteArray.toList_eq]; simpa using hxe)]; simp)
        have hxf : (x.toList == []) = false := by rw [beq_eq_false_iff_ne]; exact hxe
        clear hx htk HSA
        go_wp2_with (with_reducible refine at_slot 23 ?_; go_must (refine wpList_push' rfl _ _ 22 9 (.string ⟨#[]⟩) 16 (by kernel_rfl) (by kernel_rfl) rfl (by omega) rfl ad m cp (strV l) (.string x) _ wr.heap.size rfl rfl HF.out rfl rfl (by omega) ?_); intro ad' cp' w3 hf3 hlt3)
        have HF3 := Lib.hid hf3
        clear hf3
        go_roundw
        case rel => exact ⟨k + 1, m + 1, ad', cp', l ++ [x], by omega, by go_num, rfl, by omega, Lib.hid (by rw [List.length_append, HLL.out]; rfl), HK2, Lib.hid (by rw [← strV_snoc]; exact HF3.out)⟩
        case measure => simp only [intOf]; omega
    · obtain rfl : k = n := by omega
      have HWD : Hid (wordsB line = l) := Lib.hid (by rw [HLK.out, List.take_of_length_le (by rw [HN.out]; exact Nat.le_refl _), ← HL.out]; rfl)
      have HB2 := Lib.hid (HB1.out.call HF.out)
      have HLS : Hid (∀ x ∈ l, x.size ≤ 5000) := Lib.hid (fun x hx => HSZ.out x (by rw [HLK.out] at hx; exact (List.take_subset _ _) (List.mem_filter.1 hx).1))
      have hm5 : m ≤ 5001 := by omega
      have HCP := Lib.hid HF.out.cap
      clear HLK HSA HSZ HB1 HF HL HN hm hn1 hlt HTW
      have hHB2 : Hw w0 wr H s (⟨9, 1, m, .slice ad m cp, strV l⟩ :: eOut O ⟨#[]⟩ :: B) := by
        have := HB2.out
        have e : Ent.big ⟨9, .slice ad m cp, strV l⟩ = ⟨9, 1, m, .slice ad m cp, strV l⟩ := by unfold Ent.big; rw [← HLL.out]; simp [strV]
        rw [List.map_cons, List.map_nil, e] at this
        exact this
      have HB3 := Lib.hid hHB2
      have HB4 : Hid (Hw w0 wr H s (eOut O ⟨#[]⟩ :: (⟨9, 1, m, .slice ad m cp, strV l⟩ : Big) :: B)) := Lib.hid (hHB2.perm (.swap _ _ _))
      clear hHB2 HB2
      cases l with
      | nil =>
        obtain rfl : m = 0 := by rw [← HLL.out]; rfl
        have HR : Hid (ansR s line = (s, errB 10)) := Lib.hid (by unfold ansR; rw [HWD.out]; rfl)
        go_wp2_with fail
        refine (mustE 10 (by decide) _).mono ?_; rintro e w7 ⟨rfl, rfl⟩
        go_wp2_with fail
        exact ansPanic (by omega) (by omega) HB4.out (List.sublist_cons_self _ _) HT.out HR.out (fun W v hv => by simp [results, Tryd.results12, go_sem, hv])
      | cons x r =>
        obtain ⟨b, off, hbo, -, x0⟩ := (HB3.out.saN (T := 9) (c := 1) List.mem_cons_self).strA 0 x rfl
        subst hbo
        rw [Nat.add_zero] at x0
        have hm1 : m = r.length + 1 := HLL.out.symm
        have hxs : x.size ≤ 5000 := HLS.out x List.mem_cons_self
        have HM5 : Hid (m ≤ 5001) := Lib.hid hm5
        have HANS : Hid (∀ st ou, ansO s (x :: r) = (st, ou) → ansR s line = (st, ouB ou)) := Lib.hid (fun st ou h => by unfold ansR; rw [HWD.out, h])
        clear HB3 hm5
        by_cases hnm : r = [] ∧ x = wNames
        · obtain ⟨rfl, rfl⟩ := hnm
          obtain rfl : m = 1 := hm1
          have hwl : wNames.toList = [110, 97, 109, 101, 115] := by rw [ByteArray.toList_eq]; rfl
          have hw := HB4.out
          obtain ⟨D', do', ed, hDl, e0⟩ := (hw.saN (T := 35) (c := 1) (List.mem_cons_of_mem _ (List.mem_cons_of_mem _ hd))).at 0 (by simp)
          cases ed
          simp only [Nat.add_zero, List.getElem?_cons_zero] at e0
          have HR := HANS.out s (.ok (bs (58 :: Lib.join ((nmsM s.M).map (·.data.toList)) [32]))) (by rw [ansO, if_pos ⟨rfl, rfl⟩])
          clear hw
          have h8 : s.M.length ≤ 8 := by have := HOK.out.ok.tk.1; rwa [tksL_len] at this
          have HNS : Hid (∀ y ∈ nmsM s.M, y.size ≤ 1000) := Lib.hid (fun y hy => by
            unfold nmsM at hy
            obtain ⟨mm, h1, rfl⟩ := List.mem_map.1 hy
            have := named_le (HOK.out.nm mm h1)
            omega)
          have hml : (nmsM s.M).length = s.M.length := by unfold nmsM; rw [List.length_map]
          obtain ⟨J, hJ⟩ : ∃ J, bs (Lib.join ((nmsM s.M).map (·.data.toList)) [32]) = J := ⟨_, rfl⟩
          have hJs : J.size ≤ 1000000 := by
            have := join_bd (nmsM s.M) HNS.out
            rw [← hJ, bs_size]; omega
          have hR2 : ouB (Except.ok (bs (58 :: Lib.join ((nmsM s.M).map (·.data.toList)) [32]))) = ⟨#[58]⟩ ++ J := by
            show bs _ = _
            rw [← hJ, show (⟨#[58]⟩ : ByteArray) = bs [58] from rfl, bs_app]; rfl
          rw [hR2] at HR
          have HJ := Lib.hid hJ; have HRR := Lib.hid HR
          have HNN := Lib.hid (halNmWN HB4.out h8)
          clear hR2 HR hJ HANS HWD HLS hxs
          go_wp2_with fail
          refine HNN.out.mono ?_; rintro e w2 ⟨na, nc, rfl, hnc, hf2, hw2⟩
          have HB5 := Lib.hid hw2
          have HJC := Lib.hid (joinC (nmsM s.M) s.M.length na nc w2 (hf2.get 0 rfl) hml hnc (by omega) HNS.out)
          rw [HJ.out] at HJC
          clear hf2 hw2 HNN HNS x0 e0 hDl HB4
          go_wp2_with fail
          refine HJC.out.mono ?_; rintro e w3 ⟨rfl, hb3⟩
          have HB6 := Lib.hid (HB5.out.keep hb3)
          obtain ⟨o1, o2, o3⟩ := HB6.out.outAt
          clear hb3 HJC HB5
          go_wp2_with fail
          exact ansRet (HB6.out.setOut _) (List.sublist_cons_self _ _) HRR.out (fun W v hv => by simp [results, Tryd.results12, go_sem, hv])
        · have hg : ((m : Int) == 1) = false ∨ (((m : Int) == 1) = true ∧ (x.toList == [110, 97, 109, 101, 115]) = false) := by
            by_cases hr : r = []
            · right
              subst hr
              refine ⟨by rw [beq_iff_eq]; simp only [List.length_nil] at hm1; omega, ?_⟩
              rw [beq_eq_false_iff_ne]
              exact fun h => hnm ⟨rfl, (lst_eq _ _).1 h⟩
            · left
              rw [beq_eq_false_iff_ne]
              have : r.length ≠ 0 := fun h => hr (List.length_eq_zero_iff.1 h)
              omega
          have HD : Hid (Calls Tryd.prog 21 #[.pointer (some ⟨D, 0, none⟩), .slice (some ⟨b, off, none⟩) m cp] wr (DeedSaid w0 H s (eOut O ⟨#[]⟩ :: (⟨9, 1, m, .slice (some ⟨b, off, none⟩) m cp, strV (x :: r)⟩ : Big) :: B) (x :: r))) := Lib.hid
            (deskDeed H D s _ K (x :: r) m (some ⟨b, off, none⟩) cp HB4.out HOK.out.ok hK (List.mem_cons_of_mem _ (List.mem_cons_of_mem _ hd)) (List.mem_cons_of_mem _ List.mem_cons_self) HLL.out (by omega) (by have := HM5.out; omega) (fun y hy => by have := HLS.out y hy; omega) HOK.out.nm HT.out)
          have HA0 : Hid (kindB x = 0 → ansR s line = (s, ouB (askR x r))) := Lib.hid (fun h => HANS.out _ _ (by rw [ansO, if_neg hnm, if_pos h]))
          have HA1 : Hid (kindB x ≠ 0 → ((x :: r).length : Int) ≠ wantB x → ansR s line = (s, errB 10)) := Lib.hid (fun h h2 => HANS.out _ (.error 10) (by rw [ansO, if_neg hnm, if_neg h, if_pos (by simpa using h2)]))
          have HA2 : Hid (kindB x ≠ 0 → ((x :: r).length : Int) = wantB x → ansR s line = ((deedR s (kindB x) (x :: r)).1, ouB (deedR s (kindB x) (x :: r)).2)) := Lib.hid (fun h h2 => HANS.out _ _ (by rw [ansO, if_neg hnm, if_neg h, if_neg (by simpa using h2)]))
          have HRS : Hid (∀ y ∈ r, y.size ≤ maxLen) := Lib.hid (fun y hy => by have := HLS.out y (List.mem_cons_of_mem _ hy); unfold maxLen; omega)
          have HMR : Hid (m = r.length + 1) := Lib.hid hm1
          have m1 : (1 : Int) ≤ (m : Int) := by omega
          have m0 : ((m : Int) == 0) = false := by rw [beq_eq_false_iff_ne]; omega
          have mp : 0 < m := by omega
          clear HANS HWD HLS hnm hm1
          rcases hg with g | ⟨gm, g⟩
          all_goals
            go_wp2_with fail
            refine HD.out.mono ?_; rintro e w2 hds
            rcases hds with ⟨k0, rfl, hw⟩ | ⟨k1, kl, rfl, hw⟩ | ⟨k1, kl, hw, ⟨bb, hb, rfl⟩ | ⟨er, he, rfl⟩⟩
            · have HR := Lib.hid (HA0.out k0)
              have HW := Lib.hid hw
              obtain ⟨_, _, hbo, hbz, z0⟩ := (HW.out.saN (T := 9) (c := 1) (List.mem_cons_of_mem _ List.mem_cons_self)).strA 0 x rfl
              cases hbo
              rw [Nat.add_zero] at z0
              obtain ⟨ad', cp', hsl, hsa, -⟩ := slice_fromT 22 9 (by kernel_rfl) (by kernel_rfl) (by kernel_rfl) (some ⟨b, off, none⟩) m cp 1 (by omega) HCP.out (strV (x :: r)) (by rw [strV_len]; exact HLL.out)
              have hsl' : ∀ W, Sem.run Tryd.prog (Instr.slice 22 (.slice (some ⟨b, off, none⟩) m cp) (some (.int .i64 1)) none none) W = .ok (.slice ad' (m - 1) cp') W := hsl
              obtain ⟨q, hq⟩ : ∃ q, m - 1 = q := ⟨_, rfl⟩
              rw [hq] at hsl'
              have HCA := Lib.hid (askC x r q ad' cp' w2.drew (hsa _ (HW.out.drew.saN (T := 9) (c := 1) (List.mem_cons_of_mem _ List.mem_cons_self))) (by have := HMR.out; omega) (by have := HM5.out; omega) HRS.out (HT.out.keep HW.out.drew.belowN))
              obtain ⟨o1, o2, o3⟩ := HW.out.outAt
              clear HA0 HA1 HA2 HD x0 HB4 hw k0 hsl hsa hq HMR
              cases ho : askR x r with
              | ok bb =>
                have HR2 : Hid (ansR s line = (s, bb)) := Lib.hid (by have := HR.out; rw [ho] at this; exact this)
                have HCB : Hid (Calls Tryd.prog 22 #[.string x, .slice ad' q cp'] w2.drew fun e w' => e = .returned (.string bb) ∧ Fr w2.drew w' []) := Lib.hid (HCA.out.mono (by
                  rintro e w' ⟨hf, ⟨b, h1, rfl⟩ | ⟨er, h1, rfl⟩⟩
                  · rw [ho] at h1; cases h1; exact ⟨rfl, hf⟩
                  · rw [ho] at h1; cases h1))
                clear HCA HR ho
                go_wp2_with fail
                have hSd : (fun w' : World => w'.cell? ⟨b, off, none⟩ = some (.string x)) w2.drew := z0
                refine wp_region_U [] (fun w' : World => w'.cell? ⟨b, off, none⟩ = some (.string x)) (by kernel_rfl) ?_
                refine wpAnyU_takeY (i := 0) (v := ?_) rfl (by kernel_rfl) (by kernel_rfl) (by kernel_rfl) (by kernel_rfl) (fun c a w h => ansPut _ (by decide) _ c a w h) (Or.inl ⟨by rfl, ?_⟩) (by assumption) ?_
                rotate_left
                · intro w _; go_simp; try with_reducible rfl
                try simp only [Act.put]
                try simp only [List.setIfInBounds_toArray]
                try simp only [List.set_cons_succ]
                try simp only [List.set_cons_zero]
                refine wpAnyU_takeY (i := 1) (v := ?_) rfl (by kernel_rfl) (by kernel_rfl) (by kernel_rfl) (by kernel_rfl) (fun c a w h => ansPut _ (by decide) _ c a w h) (Or.inl ⟨by rfl, ?_⟩) (by assumption) ?_
                rotate_left
                · intro w _; go_simp; try with_reducible rfl
                try simp only [Act.put]
                try simp only [List.setIfInBounds_toArray]
                try simp only [List.set_cons_succ]
                try simp only [List.set_cons_zero]
                refine wpAnyU_take (i := 2) (v := ?_) rfl (by kernel_rfl) (by kernel_rfl) (by kernel_rfl) (by kernel_rfl) (by kernel_rfl) (by kernel_rfl) (fun c a w h => ansPut _ (by decide) _ c a w h) (Or.inl ⟨by rfl, ?_⟩) (by assumption) ?_
                rotate_left
                · intro w hSw; obtain s1 := hSw; go_simp; try with_reducible rfl
                try simp only [Act.put]
                try simp only [List.setIfInBounds_toArray]
                try simp only [List.set_cons_succ]
                try simp only [List.set_cons_zero]
                refine wpAnyU_takeY (i := 3) (v := ?_) rfl (by kernel_rfl) (by kernel_rfl) (by kernel_rfl) (by kernel_rfl) (fun c a w h => ansPut _ (by decide) _ c a w h) (Or.inl ⟨by rfl, ?_⟩) (by assumption) ?_
                rotate_left
                · intro w _; go_simp; try with_reducible rfl
                try simp only [Act.put]
                try simp only [List.setIfInBounds_toArray]
                try simp only [List.set_cons_succ]
                try simp only [List.set_cons_zero]
                refine wpAnyU_takeY (i := 4) (v := ?_) rfl (by kernel_rfl) (by kernel_rfl) (by kernel_rfl) (by kernel_rfl) (fun c a w h => ansPut _ (by decide) _ c a w h) (Or.inl ⟨by rfl, ?_⟩) (by assumption) ?_
                rotate_left
                · intro w _; go_simp; try with_reducible rfl
                try simp only [Act.put]
                try simp only [List.setIfInBounds_toArray]
                try simp only [List.set_cons_succ]
                try simp only [List.set_cons_zero]
                refine wpAnyU_ready (rs := [5]) (by kernel_rfl) (by simp) ?_
                refine AllReadyU.cons rfl (fun K hK => ?_) AllReadyU.nil
                go_simp
                refine HCB.out.mono ?_; rintro e w3 ⟨rfl, hf3⟩
                have HB7 := Lib.hid (HW.out.drew.keep hf3.bel)
                obtain ⟨q1, q2, q3⟩ := HB7.out.outAt
                have hS2 : (fun w' : World => w'.cell? ⟨b, off, none⟩ = some (.string x)) w3 := ((bcell hf3.bel).1 b off (show b < w2.heap.size from hbz)).trans z0
                clear hf3
                refine hK.out _ _ (fun _ => hS2) ?_
                clear hK K
                try simp only [Act.put]
                try simp only [List.setIfInBounds_toArray]
                try simp only [List.set_cons_succ]
                try simp only [List.set_cons_zero]
                refine wpAnyU_ready (rs := [6]) (by kernel_rfl) (by simp) ?_
                refine AllReadyU.cons rfl (fun K hK => ?_) AllReadyU.nil
                go_simp
                have HB8 := Lib.hid (HB7.out.setOut bb)
                have hS3 : (fun w' : World => w'.cell? ⟨b, off, none⟩ = some (.string x)) (w3.setCell ⟨O, 0, none⟩ (.string bb)) := by
                  obtain ⟨_, _, hbo, -, zz⟩ := (HB8.out.saN (T := 9) (c := 1) (List.mem_cons_of_mem _ List.mem_cons_self)).strA 0 x rfl
                  cases hbo
                  exact zz
                refine hK.out _ _ (fun _ => hS3) ?_
                clear hK K
                try simp only [Act.put]
                try simp only [List.setIfInBounds_toArray]
                try simp only [List.set_cons_succ]
                try simp only [List.set_cons_zero]
                refine wpAnyU_done (by kernel_rfl) ?_ _
                go_wp2_with fail
                exact ansRet HB8.out (List.sublist_cons_self _ _) HR2.out (fun W v hv => by simp [results, Tryd.results12, go_sem, hv])
              | error er =>
                have hbd := eb_ask x r er ho
                have HR2 : Hid (ansR s line = (s, errB er)) := Lib.hid (by have := HR.out; rw [ho] at this; exact this)
                have HCB : Hid (Calls Tryd.prog 22 #[.string x, .slice ad' q cp'] w2.drew fun e w' => e = .panicked (refL er) ∧ Fr w2.drew w' []) := Lib.hid (HCA.out.mono (by
                  rintro e w' ⟨hf, ⟨b, h1, rfl⟩ | ⟨er, h1, rfl⟩⟩
                  · rw [ho] at h1; cases h1
                  · rw [ho] at h1; cases h1; exact ⟨rfl, hf⟩))
                clear HCA HR ho
                go_wp2_with fail
                have hSd : (fun w' : World => w'.cell? ⟨b, off, none⟩ = some (.string x)) w2.drew := z0
                refine wp_region_U [] (fun w' : World => w'.cell? ⟨b, off, none⟩ = some (.string x)) (by kernel_rfl) ?_
                refine wpAnyU_takeY (i := 0) (v := ?_) rfl (by kernel_rfl) (by kernel_rfl) (by kernel_rfl) (by kernel_rfl) (fun c a w h => ansPut _ (by decide) _ c a w h) (Or.inl ⟨by rfl, ?_⟩) (by assumption) ?_
                rotate_left
                · intro w _; go_simp; try with_reducible rfl
                try simp only [Act.put]
                try simp only [List.setIfInBounds_toArray]
                try simp only [List.set_cons_succ]
                try simp only [List.set_cons_zero]
                refine wpAnyU_takeY (i := 1) (v := ?_) rfl (by kernel_rfl) (by kernel_rfl) (by kernel_rfl) (by kernel_rfl) (fun c a w h => ansPut _ (by decide) _ c a w h) (Or.inl ⟨by rfl, ?_⟩) (by assumption) ?_
                rotate_left
                · intro w _; go_simp; try with_reducible rfl
                try simp only [Act.put]
                try simp only [List.setIfInBounds_toArray]
                try simp only [List.set_cons_succ]
                try simp only [List.set_cons_zero]
                refine wpAnyU_take (i := 2) (v := ?_) rfl (by kernel_rfl) (by kernel_rfl) (by kernel_rfl) (by kernel_rfl) (by kernel_rfl) (by kernel_rfl) (fun c a w h => ansPut _ (by decide) _ c a w h) (Or.inl ⟨by rfl, ?_⟩) (by assumption) ?_
                rotate_left
                · intro w hSw; obtain s1 := hSw; go_simp; try with_reducible rfl
                try simp only [Act.put]
                try simp only [List.setIfInBounds_toArray]
                try simp only [List.set_cons_succ]
                try simp only [List.set_cons_zero]
                refine wpAnyU_takeY (i := 3) (v := ?_) rfl (by kernel_rfl) (by kernel_rfl) (by kernel_rfl) (by kernel_rfl) (fun c a w h => ansPut _ (by decide) _ c a w h) (Or.inl ⟨by rfl, ?_⟩) (by assumption) ?_
                rotate_left
                · intro w _; go_simp; try with_reducible rfl
                try simp only [Act.put]
                try simp only [List.setIfInBounds_toArray]
                try simp only [List.set_cons_succ]
                try simp only [List.set_cons_zero]
                refine wpAnyU_takeY (i := 4) (v := ?_) rfl (by kernel_rfl) (by kernel_rfl) (by kernel_rfl) (by kernel_rfl) (fun c a w h => ansPut _ (by decide) _ c a w h) (Or.inl ⟨by rfl, ?_⟩) (by assumption) ?_
                rotate_left
                · intro w _; go_simp; try with_reducible rfl
                try simp only [Act.put]
                try simp only [List.setIfInBounds_toArray]
                try simp only [List.set_cons_succ]
                try simp only [List.set_cons_zero]
                refine wpAnyU_ready (rs := [5]) (by kernel_rfl) (by simp) ?_
                refine AllReadyU.cons rfl (fun K hK => ?_) AllReadyU.nil
                go_simp
                refine HCB.out.mono ?_; rintro e w3 ⟨rfl, hf3⟩
                have HB7 := Lib.hid (HW.out.drew.keep hf3.bel)
                clear hf3 hK
                go_wp2_with fail
                exact ansPanic (by omega) (by omega) HB7.out (List.sublist_cons_self _ _) HT.out HR2.out (fun W v hv => by simp [results, Tryd.results12, go_sem, hv])
            · have HR := Lib.hid (HA1.out k1 kl)
              have HW := Lib.hid hw
              clear HA0 HA1 HA2 HD x0 HB4 hw k1 kl
              go_wp2_with fail
              exact ansPanic (by omega) (by omega) HW.out (List.sublist_cons_self _ _) HT.out HR.out (fun W v hv => by simp [results, Tryd.results12, go_sem, hv])
            · have HR : Hid (ansR s line = ((deedR s (kindB x) (x :: r)).1, bb)) := Lib.hid (by have := HA2.out k1 kl; rw [show (deedR s (kindB x) (x :: r)).2 = _ from hb] at this; exact this)
              have HW : Hid (Hw w0 w2 H (deedR s (kindB x) (x :: r)).1 (eOut O ⟨#[]⟩ :: (⟨9, 1, _, .slice (some ⟨b, off, none⟩) _ cp, strV (x :: r)⟩ : Big) :: B)) := Lib.hid hw
              obtain ⟨o1, o2, o3⟩ := HW.out.outAt
              clear HA0 HA1 HA2 HD x0 HB4 hw k1 kl hb
              go_wp2_with fail
              exact ansRet (HW.out.setOut _) (List.sublist_cons_self _ _) HR.out (fun W v hv => by simp [results, Tryd.results12, go_sem, hv])
            · have HR : Hid (ansR s line = ((deedR s (kindB x) (x :: r)).1, errB er)) := Lib.hid (by have := HA2.out k1 kl; rw [show (deedR s (kindB x) (x :: r)).2 = _ from he] at this; exact this)
              have HW : Hid (Hw w0 w2 H (deedR s (kindB x) (x :: r)).1 (eOut O ⟨#[]⟩ :: (⟨9, 1, _, .slice (some ⟨b, off, none⟩) _ cp, strV (x :: r)⟩ : Big) :: B)) := Lib.hid hw
              have hbd := eb_deed s (kindB x) (x :: r) er he
              clear HA0 HA1 HA2 HD x0 HB4 hw k1 kl he
              go_wp2_with fail
              exact ansPanic (by omega) (by omega) HW.out (List.sublist_cons_self _ _) HT.out HR.out (fun W v hv => by simp [results, Tryd.results12, go_sem, hv])
end Go.Proofs.YtbolgfiafbhicaaDoor
