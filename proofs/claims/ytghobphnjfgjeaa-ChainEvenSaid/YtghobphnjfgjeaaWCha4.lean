/- The walk of the law ChainEven. -/
import Derived.Test.YtghobphnjfgjeaaChaS
import Derived.Test.YtghobphnjfgjeaaWCha1
import Derived.Test.YtghobphnjfgjeaaPush1
import Derived.Deep.DeepCutAuto
import Derived.Deep.CutRange
namespace Go.Proofs.Ytghobphnjfgjeaa
open Go.RowKit

def nilCells (n : Nat) : Array Value := (List.replicate n (.slice .none 0 0)).toArray
theorem make_rows (n : Nat) (h : n ≤ 1000000) (w : World) : Sem.run Try.prog (Instr.makeSlice 48 (.int .i64 (n : Int)) (.int .i64 (n : Int))) w = .ok (.slice (some ⟨w.heap.size, 0, .none⟩) n n) (w.alloc (.cells (nilCells n) 35)) := by
  obtain ⟨i0, hi, hz0, hz1, hz2⟩ := info_parts slsInfo
  have := run_make (P := Try.prog) w 48 35 i0 (.slice .none 0 0) Try.underlying48 hi hz0 .i64 .i64 n n (by omega) (by omega) (by rw [hz2]; omega) (by omega)
  have e : madeCells (Value.cells (.slice .none 0 0)) n = nilCells n := by
    apply Array.toList_inj.1
    rw [show Value.cells (.slice .none 0 0) = #[.slice .none 0 0] from rfl, toList_madeCells_one]; simp [nilCells]
  rw [this, hz1, Int.toNat_natCast, Nat.mul_one, e]
/-- rows that are made, and k that are not yet -/
def rowsV (Ds : List Rw) (k : Nat) : List Value := Ds.map rv ++ List.replicate k (.slice .none 0 0)
abbrev matE (N n : Nat) (xs : List Value) : Ent := ⟨35, .slice (some ⟨N, 0, .none⟩) n n, xs⟩
theorem rowsV_len (Ds : List Rw) (k : Nat) : (rowsV Ds k).length = Ds.length + k := by simp [rowsV]
theorem rowsV_get (Ds : List Rw) (X : Value) (k i : Nat) (h : Ds.length = i) : (Ds.map rv ++ X :: List.replicate k (.slice .none 0 0))[i]? = some X := by
  subst h; rw [List.getElem?_append_right (by simp)]; simp
theorem rowsV_set (Ds : List Rw) (X Y : Value) (k i : Nat) (h : Ds.length = i) : (Ds.map rv ++ X :: List.replicate k (.slice .none 0 0)).set i Y = Ds.map rv ++ Y :: List.replicate k (.slice .none 0 0) := by
  subst h; simp
theorem rowsV_succ (Ds : List Rw) (k : Nat) : rowsV Ds (k + 1) = Ds.map rv ++ (.slice .none 0 0) :: List.replicate k (.slice .none 0 0) := by simp [rowsV, List.replicate_succ]
theorem rowsV_snoc (Ds : List Rw) (p : Rw) (k : Nat) : rowsV (Ds ++ [p]) k = Ds.map rv ++ rv p :: List.replicate k (.slice .none 0 0) := by simp [rowsV]
/-- the matrix that is made reads so -/
theorem Fr.mx {w0 w : World} {N n : Nat} {Ds : List Rw} (h : Fr w0 w (matE N n (rowsV Ds 0) :: Ds.map re)) : Mx w (some ⟨N, 0, .none⟩) Ds := by
  refine ⟨?_, fun p hp => h.mem (T := 3) (n := p.2.2.length) (cap := p.2.1) ?_⟩
  · have := h.get 0 (T := 35) (ad := some ⟨N, 0, .none⟩) (n := n) (cap := n) (xs := rowsV Ds 0) rfl
    rw [rowsV, List.replicate_zero, List.append_nil] at this
    exact this
  · exact List.mem_cons_of_mem _ (List.mem_map.2 ⟨p, hp, rfl⟩)
theorem even_lit {b : Bool} {er : Int} (h : EvenSaid [[0, 1], [3, 0]] [3, 1] 2 b er) : b = true ∧ er = 0 := by
  have q1 : chkC [[0, 1], [3, 0]] = 0 := by decide +kernel
  rcases h with ⟨h0, hb, h1 | ⟨h1, h2⟩ | ⟨h1, h2, k, hk, h3⟩⟩ | ⟨h0, -, -, -, ⟨hb, -⟩ | ⟨hb, i, k, hi, hk, hne⟩⟩
  · rw [q1] at h1; exact absurd h1.symm h0
  · exact absurd rfl h2
  · have : k = 0 ∨ k = 1 := by omega
    rcases this with rfl | rfl <;> rcases h3 with h3 | h3 <;> exact absurd h3 (by decide)
  · exact ⟨hb, h0⟩
  · have h1 : i = 0 ∨ i = 1 := by omega
    have h2 : k = 0 ∨ k = 1 := by omega
    rcases h1 with rfl | rfl <;> rcases h2 with rfl | rfl <;> exact absurd (by decide +kernel) hne
set_option maxRecDepth 100000 in
set_option maxHeartbeats 8000000 in
theorem chainEven_any (R : List Rw) (l : List Int) (n ll : Nat) (a b : Option Addr) (ca cb : Nat) (w : World) (h : Mx w a R) (hn : R.length = n) (hl : ∀ p ∈ R, p.2.2.length ≤ maxLen) (hs : Sa w b (ints l)) (hll : l.length = ll) :
    Calls Try.prog 11 #[.slice a n ca, .slice b ll cb] w fun e w' => e = .returned (.bool true) ∧ Below w.heap.size w w' := by
  have HS := Lib.hid h; have HN := Lib.hid hn; have HL := Lib.hid hl; have HB := Lib.hid hs; have HLL := Lib.hid hll
  have hm : (mOf R).length = n := by simp [mOf, hn]
  have HM := Lib.hid hm
  clear h hn hl hs hll hm
  go_enter Try.func11, Try.ntmps11
  go_wp2_with fail
  have F1 := ((((Fr.start w).alloc (.cells #[.int .i64 0, .int .i64 1] 3)).alloc (.cells #[.int .i64 3, .int .i64 0] 3)).alloc (.cells #[.slice (some ⟨w.heap.size, 0, .none⟩) 2 2, .slice (some ⟨w.heap.size + 1, 0, .none⟩) 2 2] 35)).alloc (.cells #[.int .i64 3, .int .i64 1] 3)
  refine (chaEven [(some ⟨w.heap.size, 0, .none⟩, 2, [0, 1]), (some ⟨w.heap.size + 1, 0, .none⟩, 2, [3, 0])] [3, 1] 2 2 _ _ _ _ _ ((Mx.two w 0 1 3 0).keep (kin_alloc (Below.refl _ _) _)) rfl (fun p hp => by
    rcases List.mem_cons.1 hp with rfl | hp
    · show 2 ≤ maxLen; unfold maxLen; omega
    · rw [List.mem_singleton] at hp; subst hp; show 2 ≤ maxLen; unfold maxLen; omega) (Sa.litN' _ #[.int .i64 3, .int .i64 1] 3 (ints [3, 1]) rfl _ (by simp)) rfl).mono ?_; rintro e w1 ⟨b1, e1, rfl, h1, hf⟩
  obtain ⟨rfl, rfl⟩ := even_lit h1
  have HF1 := Lib.hid (F1.call hf)
  clear F1 hf h1
  go_wp2_with fail
  refine (chains_any _).mono ?_; rintro e w2 ⟨rfl, hb⟩
  have HF2 := Lib.hid (HF1.out.keep hb)
  clear hb
  go_wp2_with fail
  refine (chaEven R l n ll _ _ _ _ _ (HS.out.keep HF2.out.bel) HN.out HL.out (HF2.out.old HB.out) HLL.out).mono ?_; rintro e w3 ⟨b1, e1, rfl, h1, hf⟩
  have HF3 := Lib.hid (HF2.out.call hf)
  have HE := Lib.hid h1
  clear hf h1
  obtain ⟨C, hC⟩ : ∃ C, C = (decide (e1 = 0) && b1) := ⟨_, rfl⟩
  have HC := Lib.hid hC
  clear hC
  go_upto_region 5 with (fail)
  go_cut [55] from 44 (fun s55 wc => s55 = .bool C ∧ Hid (Fr w wc []))
  case first =>
    by_cases he : e1 = 0
    · have z : (e1 == 0) = true := beq_iff_eq.2 he
      have hc1 : C = b1 := by rw [HC.out, decide_eq_true he]; rfl
      cases b1
      · have hc2 := Lib.hid hc1
        clear hc1 he
        go_wp2_with fail
        go_meet
        exact ⟨by rw [hc2.out], HF3⟩
      · have hc2 := Lib.hid hc1
        have hlen : ll = n := by
          rcases HE.out with ⟨h0, -⟩ | ⟨-, -, h1, -⟩
          · exact absurd he h0
          · rw [← HLL.out]; exact h1
        clear hc1 he
        subst hlen
        have z2 : ((ll : Int) == (ll : Int)) = true := by simp
        go_wp2_with fail
        go_meet
        exact ⟨by rw [hc2.out], HF3⟩
    · have z : (e1 == 0) = false := beq_eq_false_iff_ne.2 he
      have hc2 : Hid (C = false) := Lib.hid (by rw [HC.out, decide_eq_false he]; rfl)
      clear he
      go_wp2_with fail
      go_meet
      exact ⟨by rw [hc2.out], HF3⟩
  case rest =>
  obtain ⟨rfl, HF4⟩ := hcut
  clear HF3 HF2 HF1
  go_upto_if 55 with (fail)
  go_cut [7, 8] from 9 (fun s7 s8 wc => s7 = .bool b1 ∧ s8 = .int .i64 e1 ∧ Hid (Fr w wc []))
  case first =>
    cases C
    · go_wp2_with fail
      go_meet
      exact ⟨rfl, rfl, HF4⟩
    · obtain ⟨he, hb⟩ : e1 = 0 ∧ b1 = true := by
        have := HC.out
        simpa using this.symm
      have hx : chkC (mOf R) = 0 ∧ l.length = n ∧ (∀ k, k < n → 0 ≤ nth l k ∧ nth l k ≤ 1000000000) ∧ ∀ i, i < n → ∀ k, k < n → nth l i * mt (mOf R) i k = nth l k * mt (mOf R) k i := by
        rcases HE.out with ⟨h0, -⟩ | ⟨-, h1, h2, h3, ⟨-, h4⟩ | ⟨h4, -⟩⟩
        · exact absurd he h0
        · exact ⟨h1, h2, h3, h4⟩
        · rw [hb] at h4; cases h4
      obtain ⟨hc0, hlen, hbd, hev⟩ := hx
      obtain rfl : ll = n := by rw [← HLL.out]; exact hlen
      have hok := chkC_ok hc0
      rw [HM.out] at hok
      have n5 := hok.n5
      have HK := Lib.hid hok; have HG := Lib.hid hbd; have HEV := Lib.hid hev
      clear he hb hc0 hlen hbd hev hok
      go_wp2_with fail
      go_loopw [58] (fun i wr => ∃ k : Nat, k ≤ ll ∧ i = .int .i64 k ∧ Hid (Fr w wr [])) (fun i _ => ll - (intOf i).toNat)
      case atStart => exact ⟨0, by omega, rfl, HF4⟩
      case round =>
        clear HF4
        obtain ⟨i, hi, rfl, HF⟩ := hrel
        by_cases hlt : i < ll
        · have hcg := come_go (mOf R) l ll i hlt HEV.out
          have HCG := Lib.hid hcg
          clear hcg
          go_wp2_with fail
          go_loopw [10, 11, 63] (fun s10 s11 s63 wr => ∃ (c : Nat) (A B : Int), c ≤ ll ∧ s63 = .int .i64 c ∧ s10 = .int .i64 A ∧ s11 = .int .i64 B ∧ 0 ≤ A ∧ A ≤ 20000000000 * (c : Int) ∧ 0 ≤ B ∧ B ≤ 20000000000 * (c : Int) ∧ Hid (comeK (mOf R) l i c = A) ∧ Hid (goK (mOf R) l i c = B) ∧ Hid (Fr w wr [])) (fun _ _ s _ => ll - (intOf s).toNat)
          case atStart => exact ⟨0, 0, 0, by omega, rfl, rfl, rfl, by omega, by omega, by omega, by omega, Lib.hid rfl, Lib.hid rfl, HF⟩
          case round =>
            clear HF
            obtain ⟨c, A, B, hc, rfl, rfl, rfl, A0, A1, B0, B1, HA, HBB, HF⟩ := hrel
            by_cases hlt2 : c < ll
            · have sA' : comeK (mOf R) l i (c + 1) = A + nth l c * mt (mOf R) c i := by rw [← HA.out]; rfl
              have sB' : goK (mOf R) l i (c + 1) = B + nth l i * mt (mOf R) i c := by rw [← HBB.out]; rfl
              have hMx := HS.out.keep HF.out.bel
              obtain ⟨b0, o0, A1', C1, l1, rfl, hb0, hl1, hc1, hs1⟩ := hMx.at c (by rw [HN.out]; exact hlt2)
              obtain ⟨_, _, A2', C2, l2, e, _, hl2, hc2, hs2⟩ := hMx.at i (by rw [HN.out]; exact hlt)
              cases e
              have ll1 : l1.length = ll := by rw [hl1]; exact HK.out.row c hlt2
              have ll2 : l2.length = ll := by rw [hl2]; exact HK.out.row i hlt
              obtain ⟨b1, o1, rfl, hb1, cx⟩ := hs1.int i (by rw [ll1]; exact hlt)
              obtain ⟨b2, o2, rfl, hb2, cy⟩ := hs2.int c (by rw [ll2]; exact hlt2)
              obtain ⟨b3, o3, rfl, hb3, cr1⟩ := (HF.out.old HB.out).int c (by rw [HLL.out]; exact hlt2)
              obtain ⟨_, _, e, _, cr2⟩ := (HF.out.old HB.out).int i (by rw [HLL.out]; exact hlt)
              cases e
              rw [ll1] at hc1
              rw [ll2] at hc2
              rw [show nth l1 i = mt (mOf R) c i by rw [hl1]; rfl] at cx
              rw [show nth l2 c = mt (mOf R) i c by rw [hl2]; rfl] at cy
              have bx := HK.out.bd c i
              have by_ := HK.out.bd i c
              have t1 := HG.out c hlt2
              have t3 := HG.out i hlt
              obtain ⟨X, hX⟩ : ∃ X, mt (mOf R) c i = X := ⟨_, rfl⟩
              obtain ⟨Y, hY⟩ : ∃ Y, mt (mOf R) i c = Y := ⟨_, rfl⟩
              obtain ⟨P, hP⟩ : ∃ P, nth l c = P := ⟨_, rfl⟩
              obtain ⟨Q, hQ⟩ : ∃ Q, nth l i = Q := ⟨_, rfl⟩
              rw [hX] at cx bx sA'
              rw [hY] at cy by_ sB'
              rw [hP] at cr1 t1 sA'
              rw [hQ] at cr2 t3 sB'
              have p0 : 0 ≤ P * X := Int.mul_nonneg t1.1 bx.1
              have p1 : P * X ≤ 1000000000 * 20 := Int.mul_le_mul t1.2 bx.2 bx.1 (by omega)
              have q0 : 0 ≤ Q * Y := Int.mul_nonneg t3.1 by_.1
              have q1 : Q * Y ≤ 1000000000 * 20 := Int.mul_le_mul t3.2 by_.2 by_.1 (by omega)
              obtain ⟨U, hU⟩ : ∃ U, P * X = U := ⟨_, rfl⟩
              obtain ⟨V, hV⟩ : ∃ V, Q * Y = V := ⟨_, rfl⟩
              rw [hU] at sA' p0 p1
              rw [hV] at sB' q0 q1
              have HA2 := Lib.hid sA'; have HB2 := Lib.hid sB'
              have i1 : (0 : Int) ≤ (c : Int) := by omega
              have i2 : (c : Int) < (ll : Int) := by omega
              have i3 : (0 : Int) ≤ (i : Int) := by omega
              have i4 : (i : Int) < (ll : Int) := by omega
              clear sA' sB' hMx hl1 hl2 ll1 ll2 hs1 hs2 hX hY hP hQ
              go_wp2_with fail
              go_quiet (fail)
              have HF3 := Lib.hid (HF.out.drewN nq)
              go_wp2_with fail
              go_quiet (fail)
              go_wp2_with fail
              exact ⟨⟨c + 1, A + U, B + V, by omega, by simp, rfl, rfl, by omega, by omega, by omega, by omega, HA2, HB2, Lib.hid (HF.out.drewN _)⟩, by simp only [intOf]; omega⟩
            · obtain rfl : c = ll := by omega
              have hcg := HCG.out
              rw [HA.out, HBB.out] at hcg
              have g1 : (A != B) = false := by rw [bne_eq_false_iff_eq]; exact hcg
              clear hcg
              go_wp2_with fail
              exact ⟨⟨i + 1, by omega, by simp, HF⟩, by simp only [intOf]; omega⟩
        · obtain rfl : i = ll := by omega
          go_wp2_with fail
          go_meet
          exact ⟨rfl, rfl, HF⟩
  case rest =>
  obtain ⟨rfl, rfl, HF⟩ := hcut
  clear HF4 HC
  by_cases hc0 : chkC (mOf R) = 0
  case neg =>
    obtain ⟨he, hb⟩ : e1 ≠ 0 ∧ b1 = false := by
      rcases HE.out with ⟨h0, h1, -⟩ | ⟨-, h1, -⟩
      · exact ⟨h0, h1⟩
      · exact absurd h1 hc0
    subst hb
    have z : (e1 != 0) = true := by rw [bne_iff_ne]; exact he
    obtain ⟨er, her⟩ : ∃ er, chkC (mOf R) = er := ⟨_, rfl⟩
    rw [her] at hc0
    have z2 : (er != 0) = true := by rw [bne_iff_ne]; exact hc0
    have HER := Lib.hid her
    clear her
    go_wp2_with fail
    refine (chaChk R n _ _ _ (HS.out.keep HF.out.bel) HN.out HL.out).mono ?_; rintro e w' ⟨rfl, rfl⟩
    rw [HER.out]
    go_wp2_with fail
    go_ret
    exact ⟨rfl, HF.out.bel⟩
  case pos =>
    have hok := chkC_ok hc0
    rw [HM.out] at hok
    have n1 := hok.n1
    have n5 := hok.n5
    have HC0 := Lib.hid hc0; have HK := Lib.hid hok
    clear hc0 hok HE
    go_wp2_with fail
    refine (chaChk R n _ _ _ (HS.out.keep HF.out.bel) HN.out HL.out).mono ?_; rintro e w4 ⟨rfl, rfl⟩
    rw [HC0.out]
    have hmk := fun W => make_rows n (by omega) W
    go_wp2_with fail
    clear hmk
    obtain ⟨N, hN⟩ : ∃ N, wc.heap.size = N := ⟨_, rfl⟩
    have HF1 : Hid (Fr w (wc.alloc (.cells (nilCells n) 35)) (matE N n (rowsV [] n) :: ([] : List Rw).map re)) := Lib.hid (HF.out.below.newN 35 (nilCells n) (rowsV [] n) (by simp [nilCells, rowsV]) n (by simp [rowsV]) (by omega) N hN)
    rw [hN]
    clear hN
    go_loopw [113] (fun i wr => ∃ (k : Nat) (Ds : List Rw), k ≤ n ∧ i = .int .i64 k ∧ Hid (Ds.length = k) ∧ Hid (mOf Ds = (List.range k).map fun i => bothRw (mOf R) i n) ∧ Hid (Fr w wr (matE N n (rowsV Ds (n - k)) :: Ds.map re))) (fun i _ => n - (intOf i).toNat)
    case atStart => exact ⟨0, [], by omega, rfl, Lib.hid rfl, Lib.hid rfl, HF1⟩
    case round =>
      clear HF1 HF
      obtain ⟨k, Ds, hk, rfl, HD, HMD, HF⟩ := hrel
      by_cases hlt : k < n
      · obtain ⟨q, hq⟩ : ∃ q, n - k = q + 1 := ⟨n - k - 1, by omega⟩
        have HQ := Lib.hid hq
        have HF1 : Hid (Fr w wr (⟨3, .slice .none 0 0, ints (bothRw (mOf R) k 0)⟩ :: matE N n (Ds.map rv ++ (.slice .none 0 0) :: List.replicate q (.slice .none 0 0)) :: Ds.map re)) := Lib.hid (by
          have := HF.out
          rw [hq, rowsV_succ] at this
          exact this.nilSlice 3)
        clear hq HF
        go_wp2_with fail
        obtain ⟨wo, hwo⟩ : ∃ wo : World, wo = wr := ⟨_, rfl⟩
        subst hwo
        go_loopw [118] (fun i wr => ∃ (c : Nat) (A : Option Addr) (C : Nat), c ≤ n ∧ i = .int .i64 c ∧ Hid (Fr w wr (⟨3, .slice A c C, ints (bothRw (mOf R) k c)⟩ :: matE N n (Ds.map rv ++ (.slice A c C) :: List.replicate q (.slice .none 0 0)) :: Ds.map re))) (fun i _ => n - (intOf i).toNat)
        case atStart => exact ⟨0, .none, 0, by omega, rfl, HF1⟩
        case round =>
          clear HF1
          obtain ⟨c, A, C, hc, rfl, HF⟩ := hrel
          by_cases hlt2 : c < n
          · have hMx := HS.out.keep HF.out.bel
            obtain ⟨b0, o0, A1, C1, l1, rfl, hb0, hl1, hc1, hs1⟩ := hMx.at k (by rw [HN.out]; exact hlt)
            obtain ⟨_, _, A2, C2, l2, e, -, hl2, hc2, hs2⟩ := hMx.at c (by rw [HN.out]; exact hlt2)
            cases e
            have ll1 : l1.length = n := by rw [hl1]; exact HK.out.row k hlt
            have ll2 : l2.length = n := by rw [hl2]; exact HK.out.row c hlt2
            obtain ⟨b1, o1, rfl, hb1, cx⟩ := hs1.int c (by rw [ll1]; exact hlt2)
            obtain ⟨b2, o2, rfl, hb2, cy⟩ := hs2.int k (by rw [ll2]; exact hlt)
            rw [ll1] at hc1
            rw [ll2] at hc2
            rw [show nth l1 c = mt (mOf R) k c by rw [hl1]; rfl] at cx
            rw [show nth l2 k = mt (mOf R) c k by rw [hl2]; rfl] at cy
            have hst := bothRw_step (mOf R) k c
            obtain ⟨X, hX⟩ : ∃ X, mt (mOf R) k c = X := ⟨_, rfl⟩
            obtain ⟨Y, hY⟩ : ∃ Y, mt (mOf R) c k = Y := ⟨_, rfl⟩
            rw [hX] at cx hst
            rw [hY] at cy hst
            obtain ⟨g, e, -, hgw, hgc, -⟩ := HF.out.swap.open (T := 35) (ad := some ⟨N, 0, .none⟩) (n := n) (cap := n) (by simp; omega)
            cases e
            have hco := hgc k (by simp; have := HD.out; omega)
            rw [rowsV_get Ds (.slice A c C) q k HD.out] at hco
            have HST := Lib.hid hst
            have HSS : Hid ((wr.cell? ⟨N, k, .none⟩ = some (.slice A c C) ∧ wr.cell? ⟨b0, o0 + k, .none⟩ = some (.slice (some ⟨b1, o1, .none⟩) n C1) ∧ wr.cell? ⟨b1, o1 + c, .none⟩ = some (.int .i64 X) ∧ wr.cell? ⟨b0, o0 + c, .none⟩ = some (.slice (some ⟨b2, o2, .none⟩) n C2) ∧ wr.cell? ⟨b2, o2 + k, .none⟩ = some (.int .i64 Y)) ∧ N < wr.heap.size ∧ b0 < wr.heap.size ∧ b1 < wr.heap.size ∧ b2 < wr.heap.size) := Lib.hid ⟨⟨hco, hc1, cx, hc2, cy⟩, hgw, hb0, hb1, hb2⟩
            have hmn : (if Y < X then Y else X) = min X Y := by split <;> omega
            have HMN := Lib.hid hmn
            have HF2 := Lib.hid ((HF.out.newN 3 #[.int .i64 (if Y < X then Y else X)] [.int .i64 (if Y < X then Y else X)] rfl 1 rfl (by omega) wr.heap.size rfl).swap)
            have hks : ∀ w', Below wr.heap.size wr w' → w'.cell? ⟨N, k, .none⟩ = some (.slice A c C) ∧ w'.cell? ⟨b0, o0 + k, .none⟩ = some (.slice (some ⟨b1, o1, .none⟩) n C1) ∧ w'.cell? ⟨b1, o1 + c, .none⟩ = some (.int .i64 X) ∧ w'.cell? ⟨b0, o0 + c, .none⟩ = some (.slice (some ⟨b2, o2, .none⟩) n C2) ∧ w'.cell? ⟨b2, o2 + k, .none⟩ = some (.int .i64 Y) := fun w' hB => by
              obtain ⟨⟨s1, s2, s3, s4, s5⟩, h1, h2, h3, h4⟩ := HSS.out
              exact ⟨(hB.cell h1).trans s1, (hB.cell h2).trans s2, (hB.cell h3).trans s3, (hB.cell h2).trans s4, (hB.cell h4).trans s5⟩
            have HKS := Lib.hid hks
            clear hmn hks
            have i1 : (0 : Int) ≤ (c : Int) := by omega
            have i2 : (c : Int) < (n : Int) := by omega
            have i3 : (0 : Int) ≤ (k : Int) := by omega
            have i4 : (k : Int) < (n : Int) := by omega
            clear hMx hl1 hl2 ll1 ll2 hs1 hs2 hX hY hst hgc hco hc1 cx hc2 cy hgw hb0 hb1 hb2
            go_wp2_with fail
            refine wp_region_U [22] (fun w' : World => w'.cell? ⟨N, k, .none⟩ = some (.slice A c C) ∧ w'.cell? ⟨b0, o0 + k, .none⟩ = some (.slice (some ⟨b1, o1, .none⟩) n C1) ∧ w'.cell? ⟨b1, o1 + c, .none⟩ = some (.int .i64 X) ∧ w'.cell? ⟨b0, o0 + c, .none⟩ = some (.slice (some ⟨b2, o2, .none⟩) n C2) ∧ w'.cell? ⟨b2, o2 + k, .none⟩ = some (.int .i64 Y)) (by kernel_rfl) ?_
            have hSd : (fun w' : World => w'.cell? ⟨N, k, .none⟩ = some (.slice A c C) ∧ w'.cell? ⟨b0, o0 + k, .none⟩ = some (.slice (some ⟨b1, o1, .none⟩) n C1) ∧ w'.cell? ⟨b1, o1 + c, .none⟩ = some (.int .i64 X) ∧ w'.cell? ⟨b0, o0 + c, .none⟩ = some (.slice (some ⟨b2, o2, .none⟩) n C2) ∧ w'.cell? ⟨b2, o2 + k, .none⟩ = some (.int .i64 Y)) wr.drew := HSS.out.1
            refine wpAnyU_takeY (i := 0) (v := ?_) rfl (by kernel_rfl) (by kernel_rfl) (by kernel_rfl) (by kernel_rfl) (fun _ _ _ h => h) (Or.inl ⟨by rfl, ?_⟩) (by assumption) ?_
            rotate_left
            · intro w _; go_simp; try with_reducible rfl
            try simp only [Act.put]
            try simp only [List.setIfInBounds_toArray]
            try simp only [List.set_cons_succ]
            try simp only [List.set_cons_zero]
            refine wpAnyU_takeY (i := 1) (v := ?_) rfl (by kernel_rfl) (by kernel_rfl) (by kernel_rfl) (by kernel_rfl) (fun _ _ _ h => h) (Or.inl ⟨by rfl, ?_⟩) (by assumption) ?_
            rotate_left
            · intro w _; go_simp; try with_reducible rfl
            try simp only [Act.put]
            try simp only [List.setIfInBounds_toArray]
            try simp only [List.set_cons_succ]
            try simp only [List.set_cons_zero]
            refine wpAnyU_takeY (i := 2) (v := ?_) rfl (by kernel_rfl) (by kernel_rfl) (by kernel_rfl) (by kernel_rfl) (fun _ _ _ h => h) (Or.inl ⟨by rfl, ?_⟩) (by assumption) ?_
            rotate_left
            · intro w _; go_simp; try with_reducible rfl
            try simp only [Act.put]
            try simp only [List.setIfInBounds_toArray]
            try simp only [List.set_cons_succ]
            try simp only [List.set_cons_zero]
            refine wpAnyU_takeY (i := 3) (v := ?_) rfl (by kernel_rfl) (by kernel_rfl) (by kernel_rfl) (by kernel_rfl) (fun _ _ _ h => h) (Or.inl ⟨by rfl, ?_⟩) (by assumption) ?_
            rotate_left
            · intro w _; go_simp; try with_reducible rfl
            try simp only [Act.put]
            try simp only [List.setIfInBounds_toArray]
            try simp only [List.set_cons_succ]
            try simp only [List.set_cons_zero]
            refine wpAnyU_takeY (i := 4) (v := ?_) rfl (by kernel_rfl) (by kernel_rfl) (by kernel_rfl) (by kernel_rfl) (fun _ _ _ h => h) (Or.inl ⟨by rfl, ?_⟩) (by assumption) ?_
            rotate_left
            · intro w _; go_simp; try with_reducible rfl
            try simp only [Act.put]
            try simp only [List.setIfInBounds_toArray]
            try simp only [List.set_cons_succ]
            try simp only [List.set_cons_zero]
            refine wpAnyU_take (i := 5) (v := ?_) rfl (by kernel_rfl) (by kernel_rfl) (by kernel_rfl) (by kernel_rfl) (by kernel_rfl) (by kernel_rfl) (fun _ _ _ h => h) (Or.inl ⟨by rfl, ?_⟩) (by assumption) ?_
            rotate_left
            · intro w hSw; obtain ⟨s1, s2, s3, s4, s5⟩ := hSw; go_simp; try with_reducible rfl
            try simp only [Act.put]
            try simp only [List.setIfInBounds_toArray]
            try simp only [List.set_cons_succ]
            try simp only [List.set_cons_zero]
            refine wpAnyU_takeY (i := 6) (v := ?_) rfl (by kernel_rfl) (by kernel_rfl) (by kernel_rfl) (by kernel_rfl) (fun _ _ _ h => h) (Or.inl ⟨by rfl, ?_⟩) (by assumption) ?_
            rotate_left
            · intro w _; go_simp; try with_reducible rfl
            try simp only [Act.put]
            try simp only [List.setIfInBounds_toArray]
            try simp only [List.set_cons_succ]
            try simp only [List.set_cons_zero]
            refine wpAnyU_takeY (i := 7) (v := ?_) rfl (by kernel_rfl) (by kernel_rfl) (by kernel_rfl) (by kernel_rfl) (fun _ _ _ h => h) (Or.inl ⟨by rfl, ?_⟩) (by assumption) ?_
            rotate_left
            · intro w _; go_simp; try with_reducible rfl
            try simp only [Act.put]
            try simp only [List.setIfInBounds_toArray]
            try simp only [List.set_cons_succ]
            try simp only [List.set_cons_zero]
            refine wpAnyU_takeY (i := 8) (v := ?_) rfl (by kernel_rfl) (by kernel_rfl) (by kernel_rfl) (by kernel_rfl) (fun _ _ _ h => h) (Or.inl ⟨by rfl, ?_⟩) (by assumption) ?_
            rotate_left
            · intro w _; go_simp; try with_reducible rfl
            try simp only [Act.put]
            try simp only [List.setIfInBounds_toArray]
            try simp only [List.set_cons_succ]
            try simp only [List.set_cons_zero]
            refine wpAnyU_take (i := 9) (v := ?_) rfl (by kernel_rfl) (by kernel_rfl) (by kernel_rfl) (by kernel_rfl) (by kernel_rfl) (by kernel_rfl) (fun _ _ _ h => h) (Or.inl ⟨by rfl, ?_⟩) (by assumption) ?_
            rotate_left
            · intro w hSw; obtain ⟨s1, s2, s3, s4, s5⟩ := hSw; go_simp; try with_reducible rfl
            try simp only [Act.put]
            try simp only [List.setIfInBounds_toArray]
            try simp only [List.set_cons_succ]
            try simp only [List.set_cons_zero]
            refine wpAnyU_takeY (i := 10) (v := ?_) rfl (by kernel_rfl) (by kernel_rfl) (by kernel_rfl) (by kernel_rfl) (fun _ _ _ h => h) (Or.inl ⟨by rfl, ?_⟩) (by assumption) ?_
            rotate_left
            · intro w _; go_simp; try with_reducible rfl
            try simp only [Act.put]
            try simp only [List.setIfInBounds_toArray]
            try simp only [List.set_cons_succ]
            try simp only [List.set_cons_zero]
            refine wpAnyU_takeY (i := 11) (v := ?_) rfl (by kernel_rfl) (by kernel_rfl) (by kernel_rfl) (by kernel_rfl) (fun _ _ _ h => h) (Or.inl ⟨by rfl, ?_⟩) (by assumption) ?_
            rotate_left
            · intro w _; go_simp; try with_reducible rfl
            try simp only [Act.put]
            try simp only [List.setIfInBounds_toArray]
            try simp only [List.set_cons_succ]
            try simp only [List.set_cons_zero]
            refine wpAnyU_take (i := 12) (v := ?_) rfl (by kernel_rfl) (by kernel_rfl) (by kernel_rfl) (by kernel_rfl) (by kernel_rfl) (by kernel_rfl) (fun _ _ _ h => h) (Or.inl ⟨by rfl, ?_⟩) (by assumption) ?_
            rotate_left
            · intro w hSw; obtain ⟨s1, s2, s3, s4, s5⟩ := hSw; go_simp; try with_reducible rfl
            try simp only [Act.put]
            try simp only [List.setIfInBounds_toArray]
            try simp only [List.set_cons_succ]
            try simp only [List.set_cons_zero]
            refine wpAnyU_takeY (i := 13) (v := ?_) rfl (by kernel_rfl) (by kernel_rfl) (by kernel_rfl) (by kernel_rfl) (fun _ _ _ h => h) (Or.inl ⟨by rfl, ?_⟩) (by assumption) ?_
            rotate_left
            · intro w _; go_simp; try with_reducible rfl
            try simp only [Act.put]
            try simp only [List.setIfInBounds_toArray]
            try simp only [List.set_cons_succ]
            try simp only [List.set_cons_zero]
            refine wpAnyU_takeY (i := 14) (v := ?_) rfl (by kernel_rfl) (by kernel_rfl) (by kernel_rfl) (by kernel_rfl) (fun _ _ _ h => h) (Or.inl ⟨by rfl, ?_⟩) (by assumption) ?_
            rotate_left
            · intro w _; go_simp; try with_reducible rfl
            try simp only [Act.put]
            try simp only [List.setIfInBounds_toArray]
            try simp only [List.set_cons_succ]
            try simp only [List.set_cons_zero]
            refine wpAnyU_takeY (i := 15) (v := ?_) rfl (by kernel_rfl) (by kernel_rfl) (by kernel_rfl) (by kernel_rfl) (fun _ _ _ h => h) (Or.inl ⟨by rfl, ?_⟩) (by assumption) ?_
            rotate_left
            · intro w _; go_simp; try with_reducible rfl
            try simp only [Act.put]
            try simp only [List.setIfInBounds_toArray]
            try simp only [List.set_cons_succ]
            try simp only [List.set_cons_zero]
            refine wpAnyU_take (i := 16) (v := ?_) rfl (by kernel_rfl) (by kernel_rfl) (by kernel_rfl) (by kernel_rfl) (by kernel_rfl) (by kernel_rfl) (fun _ _ _ h => h) (Or.inl ⟨by rfl, ?_⟩) (by assumption) ?_
            rotate_left
            · intro w hSw; obtain ⟨s1, s2, s3, s4, s5⟩ := hSw; go_simp; try with_reducible rfl
            try simp only [Act.put]
            try simp only [List.setIfInBounds_toArray]
            try simp only [List.set_cons_succ]
            try simp only [List.set_cons_zero]
            refine wpAnyU_takeY (i := 17) (v := ?_) rfl (by kernel_rfl) (by kernel_rfl) (by kernel_rfl) (by kernel_rfl) (fun _ _ _ h => h) (Or.inl ⟨by rfl, ?_⟩) (by assumption) ?_
            rotate_left
            · intro w _; go_simp; try with_reducible rfl
            try simp only [Act.put]
            try simp only [List.setIfInBounds_toArray]
            try simp only [List.set_cons_succ]
            try simp only [List.set_cons_zero]
            refine wpAnyU_takeY (i := 18) (v := ?_) rfl (by kernel_rfl) (by kernel_rfl) (by kernel_rfl) (by kernel_rfl) (fun _ _ _ h => h) (Or.inl ⟨by rfl, ?_⟩) (by assumption) ?_
            rotate_left
            · intro w _; go_simp; try with_reducible rfl
            try simp only [Act.put]
            try simp only [List.setIfInBounds_toArray]
            try simp only [List.set_cons_succ]
            try simp only [List.set_cons_zero]
            refine wpAnyU_take (i := 19) (v := ?_) rfl (by kernel_rfl) (by kernel_rfl) (by kernel_rfl) (by kernel_rfl) (by kernel_rfl) (by kernel_rfl) (fun _ _ _ h => h) (Or.inl ⟨by rfl, ?_⟩) (by assumption) ?_
            rotate_left
            · intro w hSw; obtain ⟨s1, s2, s3, s4, s5⟩ := hSw; go_simp; try with_reducible rfl
            try simp only [Act.put]
            try simp only [List.setIfInBounds_toArray]
            try simp only [List.set_cons_succ]
            try simp only [List.set_cons_zero]
            refine wpAnyU_takeY (i := 20) (v := ?_) rfl (by kernel_rfl) (by kernel_rfl) (by kernel_rfl) (by kernel_rfl) (fun _ _ _ h => h) (Or.inl ⟨by rfl, ?_⟩) (by assumption) ?_
            rotate_left
            · intro w _; go_simp; try with_reducible rfl
            try simp only [Act.put]
            try simp only [List.setIfInBounds_toArray]
            try simp only [List.set_cons_succ]
            try simp only [List.set_cons_zero]
            refine wpAnyU_ready (rs := [21]) (by kernel_rfl) (by simp) ?_
            refine AllReadyU.cons rfl (fun K hK => ?_) AllReadyU.nil
            go_simp
            refine hK.out _ _ (fun _ => HKS.out _ (kin_alloc (Below.refl _ _) _).drew) ?_
            clear hK K
            try simp only [Act.put]
            try simp only [List.setIfInBounds_toArray]
            try simp only [List.set_cons_succ]
            try simp only [List.set_cons_zero]
            refine wpAnyU_ready (rs := [22]) (by kernel_rfl) (by simp) ?_
            refine AllReadyU.cons rfl (fun K hK => ?_) AllReadyU.nil
            refine step_push rfl (.tmp 126) (.tmp 142) 35 3 (.int .i64 0) 8 Try.underlying35 intInfo rfl (by omega) (by rfl) A c C wr.heap.size (ints (bothRw (mOf R) k c)) (.int .i64 (if Y < X then Y else X)) (matE N n (Ds.map rv ++ (.slice A c C) :: List.replicate q (.slice .none 0 0)) :: Ds.map re) (by rfl) HF2.out.drew (by rfl) rfl (by omega) ?_
            intro ad' cp' w5 hf hsz
            have hf2 : Fr w w5 (matE N n (Ds.map rv ++ (.slice A c C) :: List.replicate q (.slice .none 0 0)) :: ⟨3, .slice ad' (c + 1) cp', ints (bothRw (mOf R) k (c + 1))⟩ :: Ds.map re) := by
              rw [HST.out, ← HMN.out, ← ints_snoc]
              exact (hf.sub (.cons_cons _ (List.sublist_cons_self _ _))).swap
            obtain ⟨g, e, -, -, hgc, hgz⟩ := hf2.open (by simp; omega)
            cases e
            have hco := hgc k (by simp; have := HD.out; omega)
            rw [rowsV_get Ds (.slice A c C) q k HD.out] at hco
            have hz := hgz k
            have hf3 := hf2.set k (.slice ad' (c + 1) cp')
            rw [rowsV_set Ds (.slice A c C) (.slice ad' (c + 1) cp') q k HD.out] at hf3
            have HF3 := Lib.hid hf3.swap
            clear hf hf2 hf3 hgc hgz hsz
            refine hK.out _ _ (fun h => absurd h (by decide +kernel)) ?_
            clear hK K
            try simp only [Act.put]
            try simp only [List.setIfInBounds_toArray]
            try simp only [List.set_cons_succ]
            try simp only [List.set_cons_zero]
            refine wpAnyU_ready (rs := [23]) (by kernel_rfl) (by simp) ?_
            refine AllReadyU.cons rfl (fun K hK => ?_) AllReadyU.nil
            go_simp
            refine hK.out _ _ (fun h => absurd h (by decide +kernel)) ?_
            clear hK K
            try simp only [Act.put]
            try simp only [List.setIfInBounds_toArray]
            try simp only [List.set_cons_succ]
            try simp only [List.set_cons_zero]
            refine wpAnyU_ready (rs := [24]) (by kernel_rfl) (by simp) ?_
            refine AllReadyU.cons rfl (fun K hK => ?_) AllReadyU.nil
            go_simp
            refine hK.out _ _ (fun h => absurd h (by decide +kernel)) ?_
            clear hK K
            try simp only [Act.put]
            try simp only [List.setIfInBounds_toArray]
            try simp only [List.set_cons_succ]
            try simp only [List.set_cons_zero]
            refine wpAnyU_done (by kernel_rfl) ?_ _
            go_wp2_with fail
            exact ⟨⟨c + 1, ad', cp', by omega, by simp, HF3⟩, by simp only [intOf]; omega⟩
          · obtain rfl : c = n := by omega
            have HF2 : Hid (Fr w wr (matE N c (rowsV (Ds ++ [(A, C, bothRw (mOf R) k c)]) (c - (k + 1))) :: (Ds ++ [(A, C, bothRw (mOf R) k c)]).map re)) := Lib.hid (by
              have e1 : re (A, C, bothRw (mOf R) k c) = ⟨3, .slice A c C, ints (bothRw (mOf R) k c)⟩ := by unfold re rv; simp only [bothRw_len]
              have e2 : rv (A, C, bothRw (mOf R) k c) = .slice A c C := by unfold rv; simp only [bothRw_len]
              rw [rowsV_snoc, e2, show c - (k + 1) = q by have := HQ.out; omega, List.map_append, List.map_singleton, e1]
              refine HF.out.perm ?_
              refine (List.Perm.swap _ _ _).trans (List.Perm.cons _ ?_)
              exact (List.perm_append_comm (l₁ := [_]) (l₂ := Ds.map re)))
            have HD2 : Hid ((Ds ++ [(A, C, bothRw (mOf R) k c)]).length = k + 1) := Lib.hid (by rw [List.length_append, HD.out]; rfl)
            have HM2 : Hid (mOf (Ds ++ [(A, C, bothRw (mOf R) k c)]) = (List.range (k + 1)).map fun i => bothRw (mOf R) i c) := Lib.hid (by
              have := HMD.out
              unfold mOf at this ⊢
              rw [List.map_append, this, List.range_succ, List.map_append]; rfl)
            go_wp2_with fail
            exact ⟨⟨k + 1, _, by omega, by simp, HD2, HM2, HF2⟩, by simp only [intOf]; omega⟩
      · obtain rfl : k = n := by omega
        have hmd : mOf Ds = bothM (mOf R) k := HMD.out
        have hdl : ∀ p ∈ Ds, p.2.2.length ≤ maxLen := fun p hp => by
          have : p.2.2 ∈ mOf Ds := List.mem_map.2 ⟨p, hp, rfl⟩
          rw [hmd] at this
          obtain ⟨j, -, hj⟩ := List.mem_map.1 this
          rw [← hj, bothRw_len]; unfold maxLen; omega
        have hmx : Mx wr (some ⟨N, 0, .none⟩) Ds := by
          have := HF.out
          rw [Nat.sub_self] at this
          exact this.mx
        have HB1 := Lib.hid hmd; have HDL := Lib.hid hdl; have HMX := Lib.hid hmx
        have HK2 := Lib.hid HK.out.bd
        clear hmd hdl hmx HMD
        go_wp2_with fail
        refine (chaRest Ds k _ _ _ HMX.out HD.out HDL.out).mono ?_; rintro e w5 hx
        unfold RestSaid at hx
        rw [HB1.out] at hx
        rcases hx with ⟨er, h0, h1, -, -⟩ | ⟨-, -, rfl, hf⟩ | ⟨-, h1, ad, rfl, hf⟩
        · rw [bothM_chk (mOf R) k n1 n5 HK2.out] at h1; exact absurd h1.symm h0
        · have HF5 := Lib.hid (HF.out.keep hf.bel).bel
          clear hf
          go_wp2_with fail
          go_ret
          exact ⟨rfl, HF5.out⟩
        · have HF5 := Lib.hid (HF.out.below.call hf)
          have HMX5 := Lib.hid (HMX.out.keep hf.bel)
          have HSM := Lib.hid h1
          have z1 : ((k : Int) != (k : Int)) = false := by simp
          clear hf h1
          go_wp2_with fail
          refine (chaEven Ds (restL (bothM (mOf R) k) k) k k _ _ _ _ _ HMX5.out HD.out HDL.out (HF5.out.get 0 rfl) (by rw [restL, restP_len])).mono ?_; rintro e w6 ⟨b2, er2, rfl, h2, hf⟩
          rw [HB1.out] at h2
          have hev := both_even (mOf R) k n1 n5 HK2.out HSM.out h2
          have hmm := both_minmax (mOf R) k n1 n5 HK2.out HSM.out
          have hmk2 := slMinK (restL (bothM (mOf R) k) k) k ad k w6
          have HF6 := Lib.hid (HF5.out.call hf)
          have HLR : Hid ((restL (bothM (mOf R) k) k).length = k) := Lib.hid (by rw [restL, restP_len])
          have HMM := Lib.hid hmm
          clear hf h2 hmm hmk2 z1
          rcases hev with rfl | ⟨rfl, rfl⟩
          all_goals
            go_wp2_with fail
            refine (slMinK (restL (bothM (mOf R) k) k) k _ _ _ (HF6.out.get 0 rfl) HLR.out n1 (by omega)).mono ?_; rintro e w7 ⟨rfl, rfl⟩
            rw [HMM.out]
            obtain ⟨K, hK⟩ : ∃ K, maxK (restL (bothM (mOf R) k) k) k = K := ⟨_, rfl⟩
            rw [hK]
            have HKK := Lib.hid hK
            clear hK
            have z3 : (K == K) = true := by simp
            go_wp2_with fail
            refine (slMaxK (restL (bothM (mOf R) k) k) k _ _ _ (HF6.out.get 0 rfl) HLR.out n1 (by omega)).mono ?_; rintro e w7 ⟨rfl, rfl⟩
            rw [HKK.out]
            go_wp2_with fail
            go_ret
            exact ⟨by simp, HF6.out.bel⟩
theorem chainEven_row (a0 : Option Addr) (len0 cap0 : Nat) (a1 : Option Addr) (len1 cap1 : Nat) (z1 : List Int) (w : World) (w0 : IsMat w a0 len0 cap0) (w1 : IsRow .i64 w a1 len1 cap1 z1) :
    Calls Try.prog 11 #[.slice a0 len0 cap0, .slice a1 len1 cap1] w fun e w' => e = .returned (.bool true) ∧ Below w.heap.size w w' := by
  obtain ⟨_, _, R, h1, h2, h3⟩ := w0
  obtain ⟨h4, h5, _⟩ := w1.sa
  exact chainEven_any R (z1.take len1) len0 len1 a0 a1 cap0 cap1 w h2 h1 (fun p hp => (h3 p hp).1) h4 h5
end Go.Proofs.Ytghobphnjfgjeaa
