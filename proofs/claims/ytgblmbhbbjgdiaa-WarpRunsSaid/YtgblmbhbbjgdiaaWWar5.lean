/- The walk of the law WarpRuns. -/
import Derived.Test.YtgblmbhbbjgdiaaWWar4
namespace Go.Proofs.Ytgblmbhbbjgdiaa
open Go.RowKit

def bls (b : List Bool) : List Value := b.map Value.bool
theorem bls_len (b : List Bool) : (bls b).length = b.length := by simp [bls]
theorem bls_get (b : List Bool) (i : Nat) (h : i < b.length) : (bls b)[i]? = some (.bool (b.getD i false)) := by simp [bls, h]
theorem bls_set (b : List Bool) (i : Nat) (x : Bool) : (bls b).set i (.bool x) = bls (b.set i x) := by simp [bls, List.map_set]
theorem Sa.bl {w : World} {a : Option Addr} {b : List Bool} (h : Sa w a (bls b)) (i : Nat) (hi : i < b.length) : ∃ g off, a = some ⟨g, off, .none⟩ ∧ g < w.heap.size ∧ w.cell? ⟨g, off + i, .none⟩ = some (.bool (b.getD i false)) := by
  obtain ⟨g, off, e, hb, hc⟩ := h.at i (by rw [bls_len]; exact hi)
  exact ⟨g, off, e, hb, by rw [hc, bls_get b i hi]⟩
theorem Fr.setB {w0 w : World} {L : List Ent} {T : TypeId} {g n cap : Nat} {b : List Bool} (h : Fr w0 w (⟨T, .slice (some ⟨g, 0, .none⟩) n cap, bls b⟩ :: L)) (i : Nat) (y : Bool) :
    Fr w0 (w.setCell ⟨g, i, .none⟩ (.bool y)) (⟨T, .slice (some ⟨g, 0, .none⟩) n cap, bls (b.set i y)⟩ :: L) := by
  rw [← bls_set]; exact h.set i _
theorem Fr.openB {w0 w : World} {L : List Ent} {T : TypeId} {ad : Option Addr} {n cap : Nat} {b : List Bool} (h : Fr w0 w (⟨T, .slice ad n cap, bls b⟩ :: L)) (i : Nat) (hi : i < b.length) :
    ∃ g, ad = some ⟨g, 0, .none⟩ ∧ g < w.heap.size ∧ w.cell? ⟨g, i, .none⟩ = some (.bool (b.getD i false)) ∧ w.frozen? ⟨g, i, .none⟩ = false := by
  obtain ⟨g, e, _, h1, h2, h3⟩ := h.open (by rw [bls_len]; omega)
  exact ⟨g, e, h1, by rw [h2 i (by rw [bls_len]; exact hi), bls_get b i hi], h3 i⟩
theorem Fr.newN {w0 w : World} {L : List Ent} (h : Fr w0 w L) (T : TypeId) (cs : Array Value) (xs : List Value) (e : cs.toList = xs) (n : Nat) (hn : n = xs.length) (hl : n ≤ 1000000) (N : Nat) (hN : w.heap.size = N) :
    Fr w0 (w.alloc (.cells cs T)) (⟨T, .slice (some ⟨N, 0, .none⟩) n n, xs⟩ :: L) := by subst hN; exact h.new T cs xs e n hn hl
def boolCells (n : Nat) : Array Value := (List.replicate n (Value.bool false)).toArray
theorem boolInfo : (Try.prog.info? 4).map (fun i => (i.zero, i.size, i.bytes)) = some (some (.bool false), 1, 1) := by kernel_rfl
theorem make_bools (n : Nat) (h : n ≤ 1000000) (w : World) : Sem.run Try.prog (Instr.makeSlice 60 (.int .i64 (n : Int)) (.int .i64 (n : Int))) w = .ok (.slice (some ⟨w.heap.size, 0, .none⟩) n n) (w.alloc (.cells (boolCells n) 4)) := by
  obtain ⟨i0, hi, hz0, hz1, hz2⟩ := info_parts boolInfo
  have := run_make (P := Try.prog) w 60 4 i0 (.bool false) Try.underlying60 hi hz0 .i64 .i64 n n (by omega) (by omega) (by rw [hz2]; omega) (by omega)
  have e : madeCells (Value.cells (.bool false)) n = boolCells n := by
    apply Array.toList_inj.1
    rw [show Value.cells (.bool false) = #[.bool false] from rfl, toList_madeCells_one]; simp [boolCells]
  rw [this, hz1, Int.toNat_natCast, Nat.mul_one, e]

set_option maxRecDepth 100000 in
set_option maxHeartbeats 1000000 in
theorem idxB_no (b : List Bool) (n : Nat) (a : Option Addr) (ca : Nat) (w : World) (h : Sa w a (bls b)) (hn : b.length = n) (h0 : ∀ i, i < n → b.getD i false = false) (hl : n ≤ 1000000) :
    Calls Try.prog 50 #[.slice a n ca, .bool true] w fun e w' => e = .returned (.int .i64 (-1)) ∧ w = w' := by
  have HN := Lib.hid hn; have HS := Lib.hid h; have H0 := Lib.hid h0
  clear hn h h0
  go_enter Try.func50, Try.ntmps50
  go_wp2_with fail
  go_loop [8] (fun i => ∃ k : Nat, k ≤ n ∧ i = .int .i64 k) (fun i => n - (intOf i).toNat)
  case atStart => exact ⟨0, by omega, rfl⟩
  case round =>
    obtain ⟨k, hk, rfl⟩ := hrel
    by_cases hlt : k < n
    · obtain ⟨g, off, rfl, hb, hc⟩ := HS.out.bl k (by rw [HN.out]; exact hlt)
      rw [H0.out k hlt] at hc
      have i1 : (0 : Int) ≤ (k : Int) := by omega
      have i2 : (k : Int) < (n : Int) := by omega
      go_wp2_with fail
      exact ⟨⟨k + 1, by omega, by simp⟩, by simp only [intOf]; omega⟩
    · obtain rfl : k = n := by omega
      go_wp2_with fail
      go_ret
      exact ⟨rfl, rfl⟩
set_option maxRecDepth 100000 in
theorem hasB_no (b : List Bool) (n : Nat) (a : Option Addr) (ca : Nat) (w : World) (h : Sa w a (bls b)) (hn : b.length = n) (h0 : ∀ i, i < n → b.getD i false = false) (hl : n ≤ 1000000) :
    Calls Try.prog 29 #[.slice a n ca, .bool true] w fun e w' => e = .returned (.bool false) ∧ w = w' := by
  have HN := Lib.hid hn; have HS := Lib.hid h; have H0 := Lib.hid h0
  clear hn h h0
  go_enter Try.func29, Try.ntmps29
  go_wp2_with fail
  refine (idxB_no b n _ _ _ HS.out HN.out H0.out hl).mono ?_; rintro e w' ⟨rfl, rfl⟩
  go_wp2_with fail
  go_ret
  exact ⟨rfl, rfl⟩
/-- who is there, told of the first i -/
def thP (l : List Rn) (n i : Nat) : List Bool := (List.range n).map fun j => if j < i then (rnA l j).th else false
theorem thP_len (l : List Rn) (n i : Nat) : (thP l n i).length = n := by simp [thP]
theorem thP_zero (l : List Rn) (n : Nat) : List.replicate n false = thP l n 0 := by
  apply List.ext_getElem
  · simp [thP]
  · intro i h1 h2; simp [thP]
theorem thP_step (l : List Rn) (n i : Nat) (_h : i < n) : (thP l n i).set i (rnA l i).th = thP l n (i + 1) := by
  apply List.ext_getElem
  · simp [thP]
  · intro j h1 h2
    rw [List.getElem_set]
    simp only [thP, List.getElem_map, List.getElem_range]
    by_cases e : i = j
    · subst e; rw [if_pos rfl, if_pos (by omega)]
    · rw [if_neg e]
      by_cases h3 : j < i
      · rw [if_pos h3, if_pos (by omega)]
      · rw [if_neg h3, if_neg (by omega)]
theorem thP_all (l : List Rn) (n : Nat) (h : l.length = n) : thP l n n = thL l := by
  apply List.ext_getElem
  · simp [thP, thL, h]
  · intro j h1 h2
    simp only [thP, List.length_map, List.length_range] at h1
    simp [thP, thL, h1, rnA, h]
theorem thL_get (L : List Rn) (i : Nat) (h : i < L.length) : (thL L).getD i false = (rnA L i).th := by simp [thL, rnA, h]
theorem thL_len (L : List Rn) : (thL L).length = L.length := by simp [thL]
theorem cntI_bd (r : List Int) (i : Int) : 0 ≤ cntI r i ∧ cntI r i ≤ r.length := by
  unfold cntI
  have := List.length_filter_le (fun x => x == i) r
  omega

set_option maxRecDepth 100000 in
set_option maxHeartbeats 8000000 in
theorem warpRuns_any (l : List Rn) (T : List Tu) (n m : Nat) (a b : Option Addr) (ca cb : Nat) (u : Int) (w : World) (h : Sa w a (ths l)) (h' : Sa w b (tus T)) (hn : l.length = n) (hm : T.length = m) (hcb : m ≤ cb) :
    Calls Try.prog 9 #[.slice a n ca, .slice b m cb, .int .i64 u] w fun e w' => e = .returned (.bool true) ∧ Below w.heap.size w w' := by
  have HN := Lib.hid hn; have HM := Lib.hid hm; have HS := Lib.hid h; have HS' := Lib.hid h'
  clear h h' hn hm
  go_enter Try.func9, Try.ntmps9
  go_wp2_with fail
  refine (warps_any _).mono ?_; rintro e w1 ⟨rfl, hb⟩
  have HF1 := Lib.hid ((Fr.start w).keep hb)
  clear hb
  go_wp2_with fail
  rcases play_cases l T u with ⟨er, he, h0⟩ | ⟨he, hu⟩ | ⟨he, x, rfl, hx⟩
  · refine (warPlay_no l T n m u _ _ _ _ _ (HF1.out.old HS.out) (HF1.out.old HS'.out) HN.out HM.out er he h0).mono ?_; rintro e w2 ⟨rfl, hb⟩
    have HB2 := Lib.hid (HF1.out.keep hb).bel
    have z : (er != 0) = true := by rw [bne_iff_ne]; exact h0
    clear hb he
    go_wp2_with fail
    go_ret
    exact ⟨rfl, HB2.out⟩
  · refine (warPlay_arg l T n m u _ _ _ _ _ (HF1.out.old HS.out) (HF1.out.old HS'.out) HN.out HM.out he hu).mono ?_; rintro e w2 ⟨rfl, hb⟩
    have HB2 := Lib.hid (HF1.out.keep hb).bel
    clear hb he
    go_wp2_with fail
    go_ret
    exact ⟨rfl, HB2.out⟩
  · refine (warPlay_yes l T n m x _ _ _ _ _ (HF1.out.old HS.out) (HF1.out.old HS'.out) HN.out HM.out hcb he hx).mono ?_; rintro e w2 ⟨rd, rc, ed, ec, rfl, hrc, hec, hf⟩
    have hok := chkW_ok he
    rw [HN.out, HM.out] at hok
    have n8 := hok.n8
    have m30 := hok.m30
    have z1 : ((x : Int) != (x : Int)) = false := by simp
    have z2 : ((n : Int) != (n : Int)) = false := by simp
    have HF2 := Lib.hid (HF1.out.call hf)
    have HE := Lib.hid he; have HOK := Lib.hid hok
    have hmk := fun W => make_bools n (by omega) W
    have HF3 := Lib.hid (((HF2.out.newN 4 (boolCells n) (bls (List.replicate n false)) (by simp [boolCells, bls]) n (by simp [bls]) (by omega) _ rfl).newN 4 (boolCells n) (bls (List.replicate n false)) (by simp [boolCells, bls]) n (by simp [bls]) (by omega) (w2.heap.size + 1) (by simp)).swap)
    clear hf he hok
    go_wp2_with fail
    clear hmk z1 z2
    obtain ⟨G, hG⟩ : ∃ G, w2.heap.size = G := ⟨_, rfl⟩
    rw [hG, thP_zero l n] at HF3
    rw [hG]
    have HG := Lib.hid hG
    clear hG
    go_loopw [66] (fun i wr => ∃ j : Nat, j ≤ n ∧ i = .int .i64 j ∧ Hid (Fr w wr ([⟨4, .slice (some ⟨G, 0, .none⟩) n n, bls (thP l n j)⟩, ⟨4, .slice (some ⟨G + 1, 0, .none⟩) n n, bls (thP l n 0)⟩] ++ ([⟨3, .slice ed n ec, ints (endW (stL l T x))⟩, ⟨3, .slice rd x rc, ints (ranW l T x)⟩] ++ [])))) (fun i _ => n - (intOf i).toNat)
    case atStart => exact ⟨0, by omega, rfl, HF3⟩
    case round =>
      clear HF3 HG
      obtain ⟨j, hj, rfl, HF⟩ := hrel
      by_cases hlt : j < n
      · obtain ⟨b', off, rfl, hb, c0, c1, c2, c3⟩ := (HF.out.old HS.out).thA j (by rw [HN.out]; exact hlt)
        obtain ⟨_, e, hgl, cj, fj⟩ := HF.out.openB j (by rw [thP_len]; exact hlt)
        cases e
        have hst := thP_step l n j hlt
        obtain ⟨⟨sh, wa, th, ah, ps⟩, hr⟩ : ∃ r, rnA l j = r := ⟨_, rfl⟩
        rw [hr] at c0 c1 c2 c3 hst
        simp only at c0 c1 c2 c3 hst
        have hf := (HF.out.setB j th).alloc (.cells #[.int .i64 sh, .int .i64 wa, .bool th, .bool ah] 51)
        rw [hst] at hf
        have HF2' := Lib.hid hf
        have i1 : (0 : Int) ≤ (j : Int) := by omega
        have i2 : (j : Int) < (n : Int) := by omega
        clear hr hst hf
        go_wp2_with fail
        exact ⟨⟨j + 1, by omega, by simp, HF2'⟩, by simp only [intOf]; omega⟩
      · obtain rfl : j = n := by omega
        have hf := HF.out
        rw [thP_all l j HN.out, ← thP_zero, ← thL_zero l T, show List.replicate j false = wkA T j 0 from rfl] at hf
        have HF4 := Lib.hid hf
        clear HF hf
        go_wp2_with fail
        go_loopw [79] (fun i wr => ∃ t : Nat, t ≤ x ∧ i = .int .i64 t ∧ Hid (Fr w wr ([⟨4, .slice (some ⟨G, 0, .none⟩) j j, bls (thL (stL l T t))⟩, ⟨4, .slice (some ⟨G + 1, 0, .none⟩) j j, bls (wkA T j t)⟩] ++ ([⟨3, .slice ed j ec, ints (endW (stL l T x))⟩, ⟨3, .slice rd x rc, ints (ranW l T x)⟩] ++ [])))) (fun i _ => x - (intOf i).toNat)
        case atStart => exact ⟨0, by omega, rfl, HF4⟩
        case round =>
          clear HF4
          obtain ⟨t, ht, rfl, HF⟩ := hrel
          by_cases hlt2 : t < x
          · obtain ⟨b', off, rfl, hb, cr⟩ := (HF.out.get 3 rfl).int t (by rw [ranW_len]; exact hlt2)
            rw [ranW_nth l T x t hlt2, HN.out] at cr
            obtain ⟨B, hB⟩ : ∃ B, besW (evL l T t) j = B := ⟨_, rfl⟩
            rw [hB] at cr
            have HBB := Lib.hid hB
            have i1 : (0 : Int) ≤ (t : Int) := by omega
            have i2 : (t : Int) < (x : Int) := by omega
            clear hB
            go_wp2_with fail
            clear cr
            go_loopw [86] (fun i wr => ∃ q : Nat, q ≤ m ∧ i = .int .i64 q ∧ Hid (Fr w wr ([⟨4, .slice (some ⟨G, 0, .none⟩) j j, bls (thS T t (thL (stL l T t)) q)⟩, ⟨4, .slice (some ⟨G + 1, 0, .none⟩) j j, bls (wkS T t (wkA T j t) q)⟩] ++ ([⟨3, .slice ed j ec, ints (endW (stL l T x))⟩, ⟨3, .slice (some ⟨b', off, .none⟩) x rc, ints (ranW l T x)⟩] ++ [])))) (fun i _ => m - (intOf i).toNat)
            case atStart => exact ⟨0, by omega, rfl, HF⟩
            case round =>
              clear HF
              obtain ⟨q, hq, rfl, HF⟩ := hrel
              by_cases hlt3 : q < m
              · obtain ⟨b2, o2, rfl, hb2, c0, c1, c2⟩ := (HF.out.old HS'.out).tuA q (by rw [HM.out]; exact hlt3)
                have hk := HOK.out.tu q hlt3
                have hS1 : thS T t (thL (stL l T t)) (q + 1) = if tellB (tuA T q) t = true then (thS T t (thL (stL l T t)) q).set (tuA T q).who.toNat (decide ((tuA T q).kind = 2)) else thS T t (thL (stL l T t)) q := rfl
                have hW1 : wkS T t (wkA T j t) (q + 1) = if tellB (tuA T q) t = true then (wkS T t (wkA T j t) q).set (tuA T q).who.toNat true else wkS T t (wkA T j t) q := rfl
                have hl1 : (thS T t (thL (stL l T t)) q).length = j := by rw [thS_len, thL_len, stL_len, HN.out]
                have hl2 : (wkS T t (wkA T j t) q).length = j := by rw [wkS_len, wkA_len]
                obtain ⟨⟨xt, xw, xk⟩, hr⟩ : ∃ r, tuA T q = r := ⟨_, rfl⟩
                rw [hr] at c0 c1 c2 hk hS1 hW1
                unfold tellB at hS1 hW1
                simp only at c0 c1 c2 hk hS1 hW1
                obtain ⟨-, -, k1, k2, k3, k4, -⟩ := hk
                obtain ⟨y, rfl⟩ : ∃ y : Nat, xw = y := ⟨xw.toNat, by omega⟩
                have hy : y < j := by omega
                simp only [Int.toNat_natCast] at hS1 hW1
                have i3 : (0 : Int) ≤ (q : Int) := by omega
                have i4 : (q : Int) < (m : Int) := by omega
                have i5 : (0 : Int) ≤ (y : Int) := by omega
                clear hr
                by_cases htt : xt = (t : Int)
                · subst htt
                  have g1 : ((t : Int) == (t : Int)) = true := beq_self_eq_true _
                  have hkk : xk = 1 ∨ xk = 2 ∨ xk = 3 ∨ xk = 4 := by omega
                  obtain ⟨_, e, hg1, cy, fy⟩ := HF.out.openB y (by rw [hl1]; exact hy)
                  cases e
                  obtain ⟨_, e, hg2, cw, fw⟩ := HF.out.swap.openB y (by rw [hl2]; exact hy)
                  cases e
                  have n1 : G ≠ G + 1 := by omega
                  have n2 : G + 1 ≠ G := by omega
                  clear k3 k4
                  rcases hkk with rfl | rfl | rfl | rfl
                  · rw [if_pos (by simp)] at hS1 hW1
                    have hf := ((HF.out.setB y false).swap.setB y true).swap.alloc (.cells #[.int .i64 (t : Int), .int .i64 (y : Int), .int .i64 1] 57)
                    rw [show (decide ((1 : Int) = 2)) = false from rfl] at hS1
                    rw [← hS1, ← hW1] at hf
                    have HF5 := Lib.hid hf
                    clear hf hS1 hW1
                    go_wp2_with fail
                    exact ⟨⟨q + 1, by omega, by simp, HF5⟩, by simp only [intOf]; omega⟩
                  · rw [if_pos (by simp)] at hS1 hW1
                    have hf := ((HF.out.setB y true).swap.setB y true).swap.alloc (.cells #[.int .i64 (t : Int), .int .i64 (y : Int), .int .i64 2] 57)
                    rw [show (decide ((2 : Int) = 2)) = true from rfl] at hS1
                    rw [← hS1, ← hW1] at hf
                    have HF5 := Lib.hid hf
                    clear hf hS1 hW1
                    go_wp2_with fail
                    exact ⟨⟨q + 1, by omega, by simp, HF5⟩, by simp only [intOf]; omega⟩
                  · rw [if_neg (by simp)] at hS1 hW1
                    have hf := HF.out.alloc (.cells #[.int .i64 (t : Int), .int .i64 (y : Int), .int .i64 3] 57)
                    rw [← hS1, ← hW1] at hf
                    have HF5 := Lib.hid hf
                    clear hf hS1 hW1
                    go_wp2_with fail
                    exact ⟨⟨q + 1, by omega, by simp, HF5⟩, by simp only [intOf]; omega⟩
                  · rw [if_neg (by simp)] at hS1 hW1
                    have hf := HF.out.alloc (.cells #[.int .i64 (t : Int), .int .i64 (y : Int), .int .i64 4] 57)
                    rw [← hS1, ← hW1] at hf
                    have HF5 := Lib.hid hf
                    clear hf hS1 hW1
                    go_wp2_with fail
                    exact ⟨⟨q + 1, by omega, by simp, HF5⟩, by simp only [intOf]; omega⟩
                · have g1 : (xt == (t : Int)) = false := beq_eq_false_iff_ne.2 htt
                  rw [if_neg (by simp [htt])] at hS1 hW1
                  have hf := HF.out.alloc (.cells #[.int .i64 xt, .int .i64 (y : Int), .int .i64 xk] 57)
                  rw [← hS1, ← hW1] at hf
                  have HF5 := Lib.hid hf
                  clear hf hS1 hW1
                  go_wp2_with fail
                  exact ⟨⟨q + 1, by omega, by simp, HF5⟩, by simp only [intOf]; omega⟩
              · obtain rfl : q = m := by omega
                have hf := HF.out
                have hth := thS_is HOK.out t (stL l T t) (by rw [stL_len, HN.out]) q (Nat.le_refl _)
                have hq2 : q = T.length := HM.out.symm
                rw [hth, hq2, ← evL_par, ← thL_st, show wkS T t (wkA T j t) T.length = wkA T j (t + 1) from rfl] at hf
                have HF6 := Lib.hid hf
                have hle : (thL (stL l T (t + 1))).length = j := by rw [thL_len, stL_len, HN.out]
                have HLE := Lib.hid hle
                have hbe := besW_best (evL l T t) j
                have hbn := besW_none (evL l T t) j
                have hbl := besW_lt (evL l T t) j
                have hget : ∀ i, i < j → (thL (stL l T (t + 1))).getD i false = (rnA (evL l T t) i).th := fun i hi => by
                  rw [thL_st, thL_get _ _ (by rw [evL_len, HN.out]; exact hi)]
                rw [HBB.out] at hbe hbn hbl
                have HGET := Lib.hid hget
                obtain ⟨p1, p2⟩ := hbl
                have f1 : decide (B < -1) = false := decide_eq_false (by omega)
                have f2 : decide ((j : Int) ≤ B) = false := decide_eq_false (by omega)
                clear HF hf hth hq2 hle hget
                by_cases hB0 : 0 ≤ B
                · obtain ⟨β, rfl⟩ : ∃ β : Nat, B = β := ⟨B.toNat, by omega⟩
                  have hth := (hbe hB0).1
                  simp only [Int.toNat_natCast] at hth
                  obtain ⟨_, e, hg1, cy, fy⟩ := HF6.out.openB β (by rw [HLE.out]; omega)
                  cases e
                  rw [HGET.out β (by omega), hth] at cy
                  have f3 : decide ((0 : Int) ≤ (β : Int)) = true := decide_eq_true hB0
                  have f4 : ((β : Int) == -1) = false := beq_eq_false_iff_ne.2 (by omega)
                  clear hth hbe hbn fy
                  go_wp2_with fail
                  exact ⟨⟨t + 1, by omega, by simp, HF6⟩, by simp only [intOf]; omega⟩
                · have f3 : decide ((0 : Int) ≤ B) = false := decide_eq_false hB0
                  obtain rfl : B = -1 := by omega
                  have hno : ∀ i, i < j → (thL (stL l T (t + 1))).getD i false = false := fun i hi => by
                    rw [HGET.out i hi]; exact hbn (by omega) i hi
                  have HNO := Lib.hid hno
                  clear hbe hbn hno
                  go_wp2_with fail
                  refine (hasB_no (thL (stL l T (t + 1))) j _ _ _ (HF6.out.get 0 rfl) HLE.out HNO.out (by omega)).mono ?_; rintro e w' ⟨rfl, rfl⟩
                  go_wp2_with fail
                  exact ⟨⟨t + 1, by omega, by simp, HF6⟩, by simp only [intOf]; omega⟩
          · obtain rfl : t = x := by omega
            go_wp2_with fail
            go_loopw [146] (fun i wr => ∃ c : Nat, c ≤ j ∧ i = .int .i64 c ∧ Hid (Fr w wr ([⟨4, .slice (some ⟨G, 0, .none⟩) j j, bls (thL (stL l T t))⟩, ⟨4, .slice (some ⟨G + 1, 0, .none⟩) j j, bls (wkA T j t)⟩] ++ ([⟨3, .slice ed j ec, ints (endW (stL l T t))⟩, ⟨3, .slice rd t rc, ints (ranW l T t)⟩] ++ [])))) (fun i _ => j - (intOf i).toNat)
            case atStart => exact ⟨0, by omega, rfl, HF⟩
            case round =>
              clear HF
              obtain ⟨c, hc, rfl, HF⟩ := hrel
              by_cases hlt3 : c < j
              · go_wp2_with fail
                go_loop [19, 151] (fun s19 i => ∃ (s : Nat) (N : Int), s ≤ t ∧ i = .int .i64 s ∧ s19 = .int .i64 N ∧ 0 ≤ N ∧ N ≤ s ∧ Hid (cntI ((ranW l T t).take s) c = N)) (fun _ i => t - (intOf i).toNat)
                case atStart => exact ⟨0, 0, by omega, rfl, rfl, by omega, by omega, Lib.hid rfl⟩
                case round =>
                  obtain ⟨s, N, hs, rfl, rfl, N0, N1, HNN⟩ := hrel
                  by_cases hlt4 : s < t
                  · obtain ⟨b', off, rfl, hb, cr⟩ := (HF.out.get 3 rfl).int s (by rw [ranW_len]; exact hlt4)
                    have hst := cntI_snoc ((ranW l T t).take s) (nth (ranW l T t) s) c
                    rw [← take_nth _ s (by rw [ranW_len]; exact hlt4), HNN.out] at hst
                    obtain ⟨v, hv⟩ : ∃ v, nth (ranW l T t) s = v := ⟨_, rfl⟩
                    rw [hv] at cr hst
                    have i1 : (0 : Int) ≤ (s : Int) := by omega
                    have i2 : (s : Int) < (t : Int) := by omega
                    clear hv
                    by_cases hvc : v = (c : Int)
                    · rw [if_pos hvc] at hst
                      have HST := Lib.hid hst
                      have g1 : (v == (c : Int)) = true := beq_iff_eq.2 hvc
                      clear hst hvc
                      go_wp2_with fail
                      exact ⟨⟨s + 1, N + 1, by omega, by simp, rfl, by omega, by omega, HST⟩, by simp only [intOf]; omega⟩
                    · rw [if_neg hvc, Int.add_zero] at hst
                      have HST := Lib.hid hst
                      have g1 : (v == (c : Int)) = false := beq_eq_false_iff_ne.2 hvc
                      clear hst hvc
                      go_wp2_with fail
                      exact ⟨⟨s + 1, N, by omega, by simp, rfl, by omega, by omega, HST⟩, by simp only [intOf]; omega⟩
                  · obtain rfl : s = t := by omega
                    have hcn := HNN.out
                    rw [List.take_of_length_le (by rw [ranW_len]; exact Nat.le_refl _)] at hcn
                    have hra := runs_at HOK.out c hlt3 s
                    rw [hcn] at hra
                    obtain ⟨-, ra1, ra2⟩ := hra
                    have hrn := HOK.out.rn c hlt3
                    have hps := ((HOK.out.st s).1).ok c hlt3
                    obtain ⟨b', off, rfl, hb, c0, c1, c2, c3⟩ := (HF.out.old HS.out).thA c (by rw [HN.out]; exact hlt3)
                    have hE : (endW (stL l T s)).length = j := by rw [endW, List.length_map, stL_len, HN.out]
                    obtain ⟨b2, o2, rfl, hb2, ci⟩ := (HF.out.get 2 rfl).int c (by rw [hE]; exact hlt3)
                    have hat : nth (endW (stL l T s)) c = (rnA (stL l T s) c).ps := by
                      have : c < (stL l T s).length := by rw [stL_len, HN.out]; exact hlt3
                      simp [nth, endW, rnA, this]
                    rw [hat] at ci
                    obtain ⟨_, e, hg2, cw, fw⟩ := HF.out.swap.openB c (by rw [wkA_len]; exact hlt3)
                    cases e
                    obtain ⟨⟨sh, wa, th, ah, ps0⟩, hr⟩ : ∃ r, rnA l c = r := ⟨_, rfl⟩
                    rw [hr] at c0 c1 c2 c3 ra1 ra2 hrn
                    simp only at c0 c1 c2 c3 ra1 ra2 hrn
                    obtain ⟨s1, s2, -, -⟩ := hrn
                    obtain ⟨v1, v2, v3⟩ := share_div sh s1 s2
                    have v4 : (2520 : Int).tdiv sh = 2520 / sh := Int.tdiv_eq_ediv_of_nonneg (by omega)
                    obtain ⟨D, hD⟩ : ∃ D, 2520 / sh = D := ⟨_, rfl⟩
                    rw [hD] at v1 v2 v4 ra1 ra2
                    have v5 : IntKind.i64.wrap ((2520 : Int).tdiv sh) = D := by rw [v4, IntKind.wrap_i64]; omega
                    obtain ⟨ps, hps2⟩ : ∃ ps, (rnA (stL l T s) c).ps = ps := ⟨_, rfl⟩
                    rw [hps2] at ci ra1 ra2 hps
                    obtain ⟨W, hW⟩ : ∃ W, (wkA T j s).getD c false = W := ⟨_, rfl⟩
                    rw [hW] at cw ra2
                    have q0 : 0 ≤ N * D := Int.mul_nonneg N0 (by omega)
                    have q1 : N * D ≤ 200 * 2520 := Int.mul_le_mul (by omega) v2 (by omega) (by omega)
                    obtain ⟨Q, hQ⟩ : ∃ Q, N * D = Q := ⟨_, rfl⟩
                    rw [hQ] at ra1 ra2 q0 q1
                    have f1 : decide (ps < Q) = false := decide_eq_false (by omega)
                    obtain ⟨-, -, -, -, p1, p2⟩ := hps
                    have i1 : (0 : Int) ≤ (c : Int) := by omega
                    have i2 : (c : Int) < (j : Int) := by omega
                    clear hr hat hE v3 hps2 hW hcn
                    cases W
                    · have f2 : (ps != Q) = false := by rw [bne_eq_false_iff_eq]; exact ra2 rfl
                      clear ra2
                      go_wp2_with fail
                      exact ⟨⟨c + 1, by omega, by simp, HF⟩, by simp only [intOf]; omega⟩
                    · clear ra2
                      go_wp2_with fail
                      exact ⟨⟨c + 1, by omega, by simp, HF⟩, by simp only [intOf]; omega⟩
              · obtain rfl : c = j := by omega
                go_wp2_with fail
                go_ret
                exact ⟨rfl, HF.out.bel⟩
theorem warpRuns_row (a0 : Option Addr) (len0 cap0 : Nat) (a1 : Option Addr) (len1 cap1 : Nat) (u : Int) (w : World) (w0 : IsStr [.int, .int, .bool, .bool] w a0 len0 cap0) (w1 : IsStr [.int, .int, .int] w a1 len1 cap1) :
    Calls Try.prog 9 #[.slice a0 len0 cap0, .slice a1 len1 cap1, .int .i64 u] w fun e w' => e = .returned (.bool true) ∧ Below w.heap.size w w' := by
  obtain ⟨l, h1, _, _, h2⟩ := w0.ths
  obtain ⟨T, k1, k2, _, k3⟩ := w1.tus
  exact warpRuns_any l T len0 len1 a0 a1 cap0 cap1 u w h2 k3 h1 k1 k2
end Go.Proofs.Ytgblmbhbbjgdiaa
