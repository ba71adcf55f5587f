/- Several of my texts in one: Mn17, Mn18. -/
import Derived.Test.YtjplnkkcmkpkbaaMA19
import Derived.Conc.CompanyDraw
import Derived.Conc.TokenWalk
import Derived.Test.YtjplnkkcmkpkbaaMA20
set_option linter.unusedSimpArgs false
set_option linter.unusedVariables false
/- The machine, 17: a hand's loop. -/
namespace Go.Proofs.Ytjplnkkcmkpkbaa
open Go.Conc Go.ConcN Go.RowKit Go.Conc.Lib Go.ConcR.Gen Go.ConcN.Gen
open Go.ConcR (KK wgBlock WgAt stA smA rd wr mk DC0)

theorem arr18 (T : Array Value) (h : T.size = 18) : ∃ v0 v1 v2 v3 v4 v5 v6 v7 v8 v9 v10 v11 v12 v13 v14 v15 v16 v17, T = #[v0, v1, v2, v3, v4, v5, v6, v7, v8, v9, v10, v11, v12, v13, v14, v15, v16, v17] := by
  obtain ⟨l⟩ := T
  match l, h with
  | [v0, v1, v2, v3, v4, v5, v6, v7, v8, v9, v10, v11, v12, v13, v14, v15, v16, v17], _ => exact ⟨v0, v1, v2, v3, v4, v5, v6, v7, v8, v9, v10, v11, v12, v13, v14, v15, v16, v17, rfl⟩
theorem ops3_departs : Region.departs ops3 = false := by kernel_rfl
theorem sched3 (m : Bool) (t : Nat) : Region.schedule m ops3 t = Region.linearise .any ops3 t := by
  unfold Region.schedule; rw [ops3_departs]; simp
theorem dead3 (listed : Array Bool) (hs : listed.size = ops3.size) (h : Region.ready .any ops3 listed = []) : ∀ i, i < ops3.size → listed[i]? = some true := by
  have d0 := not_ready h o3_0 hs (by simp [oA])
  have d1 := not_ready h o3_1 hs (by simp [oA])
  have d2 := not_ready h o3_2 hs (by simp [oA])
  have d3 := not_ready h o3_3 hs (by simp [oA])
  have d4 := not_ready h o3_4 hs (fun e he => by simp [oA] at he; rcases he with rfl | rfl <;> assumption)
  have d5 := not_ready h o3_5 hs (fun e he => by simp [oA] at he; subst he; assumption)
  have d6 := not_ready h o3_6 hs (fun e he => by simp [oA] at he; subst he; assumption)
  have d7 := not_ready h o3_7 hs (fun e he => by simp [oA] at he; rcases he with rfl | rfl | rfl | rfl | rfl | rfl | rfl | rfl | rfl <;> assumption)
  have d8 := not_ready h o3_8 hs (fun e he => by simp at he; rcases he with rfl | rfl | rfl | rfl | rfl | rfl | rfl | rfl | rfl | rfl <;> assumption)
  intro i hi
  have key : listed.getD i false = true := by
    rw [ops3_size] at hi
    match i, hi with
    | 0, _ => exact d0
    | 1, _ => exact d1
    | 2, _ => exact d2
    | 3, _ => exact d3
    | 4, _ => exact d4
    | 5, _ => exact d5
    | 6, _ => exact d6
    | 7, _ => exact d7
    | 8, _ => exact d8
  rw [Array.getD_eq_getD_getElem?, Array.getElem?_eq_getElem (by omega)] at key
  rw [Array.getElem?_eq_getElem (by omega)]
  simpa using key

section
variable {q : Ph} {wB w w0 : World} {bc bj bo k J oJ cap : Nat} {slJ sv : Value} {ad : Addr} {kk : List Item}
theorem jobRun (hR : ResOk q) (hG : Geom q) (hW : WF q wB bc bj bo slJ) (hslJ : slJ = .slice (some ⟨J, oJ, none⟩) q.N cap) (had : ad = ⟨J, oJ + k, none⟩) (hJ : q.low J) (hsv : wB.cell? ad = some sv) (hk : k < q.N) (hlo : q.Low ≤ wB.heap.size) (hpay : PayO q wB) (hlB : WgLive q.ty q.Wg wB)
    (hsl : ∀ v0 v1 F w, q.Res k v0 v1 F w → (∃ a l c, v0 = .slice a l c) ∧ ∃ a l c, v1 = .slice a l c) (hdo : Does q wB k sv)
    (hback : ∀ T w, RS q wB w ∧ WgLive q.ty q.Wg w → T.size = 18 → T[0]? = some (.pointer (some ⟨bc, 0, none⟩)) → T[1]? = some (.pointer (some ⟨bj, 0, none⟩)) → T[2]? = some (.pointer (some ⟨bo, 0, none⟩)) → T[3]? = some (.pointer (some ⟨q.Wg, 0, none⟩)) → T[5]? = some (.chan (some q.Ch)) →
      ∃ rk, Wk Try.prog q rk none (fun _ => False) (G (b9.at ⟨T, []⟩ (.inRegion ops3 [] :: kk)) [bot]) w) (t : Nat) :
    KR q wB bc bj bo k slJ sv ad kk (Array.replicate 9 false) (Region.schedule (Try.prog.follows .mixedOrders) ops3 t) := by
  rw [sched3]
  unfold Region.linearise
  rw [ops3_size]
  refine lin_go (md := .any) (KR q wB bc bj bo k slJ sv ad kk) (fun listed hs hall F T w hI => ?_) dead3 (fun listed i rest hs hi hn => jobStep hR hG hW hslJ had hJ hsv hk hlo hpay hlB hsl hdo listed i rest hs hi hn) 9 t _ (by simp [ops3_size]) (by simp)
  have h8 : listed.getD 8 false = true := by
    rw [Array.getD_eq_getD_getElem?, hall 8 (by rw [ops3_size]; omega)]; rfl
  have eF : F = fun _ => False := funext fun b => propext ⟨hI.end_ h8 b, False.elim⟩
  rw [show holdOf k listed = none by unfold holdOf; rw [if_pos h8], eF]
  exact hback T w hI.rs hI.size hI.t0 hI.t1 hI.t2 hI.t3 hI.t5

theorem WF.at (h : WF q w0 bc bj bo slJ) (r : RS q w0 w) : WF q w bc bj bo slJ := ⟨h.lc, h.lj, h.lo, (low_cell r h.lc).trans h.chan, (low_cell r h.lj).trans h.jobs, (low_cell r h.lo).trans h.out⟩

/-- all jobs, as a hand sees them -/
structure Jobs (q : Ph) (w0 : World) (slJ : Value) (sv : Nat → Value) : Prop where
  res : ∀ k v0 v1 F w, q.Res k v0 v1 F w → (∃ a l c, v0 = .slice a l c) ∧ ∃ a l c, v1 = .slice a l c
  low : q.Low ≤ w0.heap.size
  pay : PayO q w0
  live : WgLive q.ty q.Wg w0
  job : ∀ k, k < q.N → ∃ J oJ cap, slJ = .slice (some ⟨J, oJ, none⟩) q.N cap ∧ q.low J ∧ w0.cell? ⟨J, oJ + k, none⟩ = some (sv k) ∧ ∀ w, RS q w0 w → Does q w k (sv k)

noncomputable def rest9 : Code := match loop9 with
  | .seq _ c => c
  | _ => .skip
noncomputable def ops1 : Array Oper := match loop9 with
  | .seq (.region _ ops _) _ => ops
  | _ => #[]

theorem o1_0 : ops1[0]? = some { dst := some 6, op := .recv 40 (.tmp 5) true, type := 0, pos := "many.go:26", after := #[], guard := none } := by kernel_rfl

set_option maxRecDepth 100000 in
set_option maxHeartbeats 2000000 in
theorem headW (hR : ResOk q) (hG : Geom q) (hW : WF q w0 bc bj bo slJ) {svs : Nat → Value} (hJ : Jobs q w0 slJ svs)
    (hexit : ∀ T w, RS q w0 w ∧ WgLive q.ty q.Wg w → ChanAt q q.N w → T.size = 18 → T[3]? = some (.pointer (some ⟨q.Wg, 0, none⟩)) → T[6]? = some (.tuple #[.int .i64 0, .bool false]) →
      ∃ rk, Wk Try.prog q rk none (fun _ => False) (G (b9.at ⟨T, []⟩ (.inRegion ops1 [1] :: .code rest9 :: [.inLoop loop9, .inBlock 0, .code tail9])) [bot]) w) :
    ∀ (m r : Nat) (w : World) (T : Array Value), q.N - r = m → RS q w0 w ∧ WgLive q.ty q.Wg w → ChanAt q r w → T.size = 18 → T[0]? = some (.pointer (some ⟨bc, 0, none⟩)) → T[1]? = some (.pointer (some ⟨bj, 0, none⟩)) → T[2]? = some (.pointer (some ⟨bo, 0, none⟩)) → T[3]? = some (.pointer (some ⟨q.Wg, 0, none⟩)) → T[5]? = some (.chan (some q.Ch)) →
      ∃ rk, Wk Try.prog q rk none (fun _ => False) (G (b9.at ⟨T, []⟩ (.code loop9 :: [.inLoop loop9, .inBlock 0, .code tail9])) [bot]) w := by
  intro m
  induction m using Nat.strongRecOn with
  | ind m ih =>
  intro r w T hm hF0 hch hsz t0 t1 t2 t3 t5
  obtain ⟨v0, v1, v2, v3, v4, v5, v6, v7, v8, v9, v10, v11, v12, v13, v14, v15, v16, v17, rfl⟩ := arr18 T hsz
  simp only [List.getElem?_toArray, List.getElem?_cons_zero, List.getElem?_cons_succ, Option.some.injEq] at t0 t1 t2 t3 t5
  subst t0 t1 t2 t3 t5
  have hF : RS q w w ∧ WgLive q.ty q.Wg w := ⟨.refl w, hF0.2⟩
  refine Wk.of_goes (Stop := fun g w' => g = G (b9.at ⟨#[.pointer (some ⟨bc, 0, none⟩), .pointer (some ⟨bj, 0, none⟩), .pointer (some ⟨bo, 0, none⟩), .pointer (some ⟨q.Wg, 0, none⟩), v4, .chan (some q.Ch), v6, v7, v8, v9, v10, v11, v12, v13, v14, v15, v16, v17], []⟩ (.inRegion ops1 [0, 1] :: .code rest9 :: [.inLoop loop9, .inBlock 0, .code tail9])) [bot] ∧ RS q w w' ∧ WgLive q.ty q.Wg w') ?_ 4 _ w ?_
  · rintro g w₁ ⟨rfl, hF1⟩
    refine Wk.make rfl fun w₂ h2 _ => ?_
    have hF2 := rs_rely hF1 h2
    obtain ⟨r', hr1, hc2⟩ := hF2.1.chan _ hch
    have hst : stepG Try.prog false (G (b9.at ⟨#[.pointer (some ⟨bc, 0, none⟩), .pointer (some ⟨bj, 0, none⟩), .pointer (some ⟨bo, 0, none⟩), .pointer (some ⟨q.Wg, 0, none⟩), v4, .chan (some q.Ch), v6, v7, v8, v9, v10, v11, v12, v13, v14, v15, v16, v17], []⟩ (.inRegion ops1 [0, 1] :: .code rest9 :: [.inLoop loop9, .inBlock 0, .code tail9])) [bot]) w₂ = .comm (G (b9.at ⟨#[.pointer (some ⟨bc, 0, none⟩), .pointer (some ⟨bj, 0, none⟩), .pointer (some ⟨bo, 0, none⟩), .pointer (some ⟨q.Wg, 0, none⟩), v4, .chan (some q.Ch), v6, v7, v8, v9, v10, v11, v12, v13, v14, v15, v16, v17], []⟩ (.inRegion ops1 [0, 1] :: .code rest9 :: [.inLoop loop9, .inBlock 0, .code tail9])) [bot]) #[rcase q.Ch (.int .i64 0)] true (.recv true) w₂ #[] := by
      rw [stepG_comm (cases := #[rcase q.Ch (.int .i64 0)]) (blocking := true) (shape := .recv true) (w' := w₂) o1_0 rfl (by k_ne) (by unfold execOp; simp [go_sem, rcase, Act.eval]), listed_none (by unfold execOp; simp [go_sem])]
    rcases Nat.lt_or_ge r' q.N with hlt | hge
    · have hopen : ∃ rk, Wk Try.prog q rk (some r') (fun _ => False) (G (b9.at ⟨#[.pointer (some ⟨bc, 0, none⟩), .pointer (some ⟨bj, 0, none⟩), .pointer (some ⟨bo, 0, none⟩), .pointer (some ⟨q.Wg, 0, none⟩), v4, .chan (some q.Ch), .tuple #[.int .i64 (r' : Nat), .bool true], v7, v8, v9, v10, v11, v12, v13, v14, v15, v16, v17], []⟩ (.inRegion ops1 [1] :: .code rest9 :: [.inLoop loop9, .inBlock 0, .code tail9])) [bot]) (took q w₂ r') := by
        have hrT : RS q w₂ (took q w₂ r') := RS.took hG hc2 hlt
        have hT0 : RS q w0 (took q w₂ r') := (hF0.1.trans hF2.1).trans hrT
        have hTl : WgLive q.ty q.Wg (took q w₂ r') := hrT.live hF2.2
        have hTc : ChanAt q (r' + 1) (took q w₂ r') := took_chan hc2 hlt
        generalize took q w₂ r' = wT at hrT hT0 hTl hTc
        have hF : RS q wT wT ∧ WgLive q.ty q.Wg wT := ⟨.refl wT, hTl⟩
        refine Wk.of_goes (Stop := fun g w' => g = G (b9.at ⟨#[.pointer (some ⟨bc, 0, none⟩), .pointer (some ⟨bj, 0, none⟩), .pointer (some ⟨bo, 0, none⟩), .pointer (some ⟨q.Wg, 0, none⟩), .int .i64 (r' : Nat), .chan (some q.Ch), .tuple #[.int .i64 (r' : Nat), .bool true], .bool true, .int .i64 (r' : Nat), v9, v10, v11, v12, v13, v14, v15, v16, v17], []⟩ (.code (.region 3 ops3 true) :: .inBlock 1 :: [.inLoop loop9, .inBlock 0, .code tail9])) [bot] ∧ RS q wT w' ∧ WgLive q.ty q.Wg w') ?_ 14 _ wT ?_
        · rintro g w₃ ⟨rfl, hF3⟩
          refine Wk.make rfl fun w₄ h4 _ => ?_
          have hF4 := rs_rely hF3 h4
          have hst3 := stepG_region_draw (P := Try.prog) (main := false) (b := b9) (a := ⟨#[.pointer (some ⟨bc, 0, none⟩), .pointer (some ⟨bj, 0, none⟩), .pointer (some ⟨bo, 0, none⟩), .pointer (some ⟨q.Wg, 0, none⟩), .int .i64 (r' : Nat), .chan (some q.Ch), .tuple #[.int .i64 (r' : Nat), .bool true], .bool true, .int .i64 (r' : Nat), v9, v10, v11, v12, v13, v14, v15, v16, v17], []⟩) (k := .inBlock 1 :: [.inLoop loop9, .inBlock 0, .code tail9]) (cs := [bot]) (w := w₄) (id := 3) (ops := ops3)
          have hd : RS q w₄ { w₄ with drawn := w₄.drawn + 1 } := RS.at w₄ (w₄.drawn + 1)
          have hF5 := rs_rely hF4 hd
          obtain ⟨J, oJ, cap, e1, e2, e3, e4⟩ := hJ.job r' hlt
          have hjr := jobRun (kk := .inBlock 1 :: [.inLoop loop9, .inBlock 0, .code tail9]) hR hG (hW.at hT0) e1 rfl e2 ((low_cell hT0 e2).trans e3) hlt (by have := hT0.grow; have := hJ.low; omega) (hT0.pay hJ.pay) hTl (hJ.res r') (e4 wT hT0) (fun T w5 hF a1 a2 a3 a4 a5 a6 => ?_) (w₄.tape w₄.drawn (.order b9.fn 3))
          · obtain ⟨rk, hwk⟩ := hjr (fun _ => False) #[.pointer (some ⟨bc, 0, none⟩), .pointer (some ⟨bj, 0, none⟩), .pointer (some ⟨bo, 0, none⟩), .pointer (some ⟨q.Wg, 0, none⟩), .int .i64 (r' : Nat), .chan (some q.Ch), .tuple #[.int .i64 (r' : Nat), .bool true], .bool true, .int .i64 (r' : Nat), v9, v10, v11, v12, v13, v14, v15, v16, v17] { w₄ with drawn := w₄.drawn + 1 } ⟨hF5, rfl, rfl, rfl, rfl, rfl, rfl, rfl, by simp, by simp, by simp, by simp, by simp, by simp, by simp, by simp, by simp, by simp, by simp⟩
            exact ⟨rk, .inl ⟨_, _, _, _, hst3, DKs.dp ⟨⟨w₄.drawn + 1, rfl⟩, by simp⟩ _, hwk⟩⟩
          · refine Wk.of_goes (Stop := fun g w' => g = G (b9.at ⟨T, []⟩ (.code loop9 :: [.inLoop loop9, .inBlock 0, .code tail9])) [bot] ∧ RS q wT w' ∧ WgLive q.ty q.Wg w') ?_ 4 _ w5 ?_
            · rintro g w6 ⟨rfl, hF6⟩
              obtain ⟨r2, b1, b2⟩ := hF6.1.chan _ hTc
              have := b2.1
              exact ih (q.N - r2) (by omega) r2 w6 T rfl ⟨hT0.trans hF6.1, hF6.2⟩ b2 a1 a2 a3 a4 a5 a6
            · refine Goes.step rfl (fun _ h₁ => ?_)
              replace hF := rs_rely hF h₁
              clear h₁
              rw [stepG_region_end]
              simp only [goes_go]
              refine ⟨by ((first | refine dm_none ?_ | refine dks_none ?_ | u_none); intro e he; simp at he), ?_⟩
              refine Goes.step rfl (fun _ h₁ => ?_)
              replace hF := rs_rely hF h₁
              clear h₁
              rw [stepG_inBlock]
              simp only [goes_go]
              refine ⟨by ((first | refine dm_none ?_ | refine dks_none ?_ | u_none); intro e he; simp at he), ?_⟩
              refine Goes.step rfl (fun _ h₁ => ?_)
              replace hF := rs_rely hF h₁
              clear h₁
              rw [stepG_inLoop]
              simp only [goes_go]
              refine ⟨by ((first | refine dm_none ?_ | refine dks_none ?_ | u_none); intro e he; simp at he), ?_⟩
              exact Goes.stop fun w₁ h₁ => ⟨rfl, rs_rely hF h₁⟩
        · simp only [ops1, rest9, loop9, tail9, body9, Try.f9, Option.getD_some]
          refine Goes.step rfl (fun _ h₁ => ?_)
          replace hF := rs_rely hF h₁
          clear h₁
          refine goes_oper_k rfl rfl (by k_ne) (fun K hK => ?_)
          go_simp
          refine hK _ _ ⟨?_, ?_⟩
          · first | refine dm_none ?_ | refine dks_none ?_ | u_none
            intro e he
            have hm := mem_listed he
            simp [go_sem, *] at hm
          clear hK K
          try w_num
          refine Goes.step rfl (fun _ h₁ => ?_)
          replace hF := rs_rely hF h₁
          clear h₁
          rw [stepG_region_end]
          simp only [goes_go]
          refine ⟨by ((first | refine dm_none ?_ | refine dks_none ?_ | u_none); intro e he; simp at he), ?_⟩
          refine Goes.step rfl (fun _ h₁ => ?_)
          replace hF := rs_rely hF h₁
          clear h₁
          rw [stepG_seq]
          simp only [goes_go]
          refine ⟨by ((first | refine dm_none ?_ | refine dks_none ?_ | u_none); intro e he; simp at he), ?_⟩
          refine Goes.step rfl (fun _ h₁ => ?_)
          replace hF := rs_rely hF h₁
          clear h₁
          rw [stepG_cond (t := true) rfl]
          simp only [goes_go, if_true, if_false, Bool.false_eq_true, ↓reduceIte]
          refine ⟨by ((first | refine dm_none ?_ | refine dks_none ?_ | u_none); intro e he; simp at he), ?_⟩
          refine Goes.step rfl (fun _ h₁ => ?_)
          replace hF := rs_rely hF h₁
          clear h₁
          rw [stepG_skip]
          simp only [goes_go]
          refine ⟨by ((first | refine dm_none ?_ | refine dks_none ?_ | u_none); intro e he; simp at he), ?_⟩
          refine Goes.step rfl (fun _ h₁ => ?_)
          replace hF := rs_rely hF h₁
          clear h₁
          rw [stepG_block]
          simp only [goes_go]
          refine ⟨by ((first | refine dm_none ?_ | refine dks_none ?_ | u_none); intro e he; simp at he), ?_⟩
          refine Goes.step rfl (fun _ h₁ => ?_)
          replace hF := rs_rely hF h₁
          clear h₁
          rw [stepG_seq]
          simp only [goes_go]
          refine ⟨by ((first | refine dm_none ?_ | refine dks_none ?_ | u_none); intro e he; simp at he), ?_⟩
          refine Goes.step rfl (fun _ h₁ => ?_)
          replace hF := rs_rely hF h₁
          clear h₁
          rw [stepG_region]
          simp only [goes_go, List.size_toArray, List.length_cons, List.length_nil, Nat.reduceAdd, Nat.zero_add, List.range, List.range.loop]
          refine ⟨by ((first | refine dm_none ?_ | refine dks_none ?_ | u_none); intro e he; simp at he), ?_⟩
          refine Goes.step rfl (fun _ h₁ => ?_)
          replace hF := rs_rely hF h₁
          clear h₁
          refine goes_oper_k rfl rfl (by k_ne) (fun K hK => ?_)
          go_simp
          refine hK _ _ ⟨?_, ?_⟩
          · first | refine dm_none ?_ | refine dks_none ?_ | u_none
            intro e he
            have hm := mem_listed he
            simp [go_sem, *] at hm
          clear hK K
          try w_num
          refine Goes.step rfl (fun _ h₁ => ?_)
          replace hF := rs_rely hF h₁
          clear h₁
          refine goes_oper_k rfl rfl (by k_ne) (fun K hK => ?_)
          go_simp
          refine hK _ _ ⟨?_, ?_⟩
          · first | refine dm_none ?_ | refine dks_none ?_ | u_none
            intro e he
            have hm := mem_listed he
            simp [go_sem, *] at hm
          clear hK K
          try w_num
          refine Goes.step rfl (fun _ h₁ => ?_)
          replace hF := rs_rely hF h₁
          clear h₁
          rw [stepG_region_end]
          simp only [goes_go]
          refine ⟨by ((first | refine dm_none ?_ | refine dks_none ?_ | u_none); intro e he; simp at he), ?_⟩
          exact Goes.stop fun w₁ h₁ => ⟨rfl, rs_rely hF h₁⟩
      obtain ⟨rk, hwk⟩ := hopen
      refine ⟨rk, .inr (.inl ⟨rfl, _, _, hst, fun r2 hc => ?_⟩)⟩
      obtain rfl := chanAt_unique hc2 hc
      exact ⟨fun _ => hwk, fun e => absurd e (by omega)⟩
    · have hN : r' = q.N := by have := hc2.1; omega
      subst hN
      obtain ⟨rk, hwk⟩ := hexit #[.pointer (some ⟨bc, 0, none⟩), .pointer (some ⟨bj, 0, none⟩), .pointer (some ⟨bo, 0, none⟩), .pointer (some ⟨q.Wg, 0, none⟩), v4, .chan (some q.Ch), .tuple #[.int .i64 0, .bool false], v7, v8, v9, v10, v11, v12, v13, v14, v15, v16, v17] w₂ ⟨hF0.1.trans hF2.1, hF2.2⟩ hc2 rfl rfl rfl
      refine ⟨rk, .inr (.inl ⟨rfl, _, _, hst, fun r2 hc => ?_⟩)⟩
      obtain rfl := chanAt_unique hc2 hc
      exact ⟨fun e => absurd e (by omega), fun _ => hwk⟩
  · simp only [ops1, rest9, loop9, tail9, body9, Try.f9, Option.getD_some]
    refine Goes.step rfl (fun _ h₁ => ?_)
    replace hF := rs_rely hF h₁
    clear h₁
    rw [stepG_seq]
    simp only [goes_go]
    refine ⟨by ((first | refine dm_none ?_ | refine dks_none ?_ | u_none); intro e he; simp at he), ?_⟩
    refine Goes.step rfl (fun _ h₁ => ?_)
    replace hF := rs_rely hF h₁
    clear h₁
    rw [stepG_region]
    simp only [goes_go, List.size_toArray, List.length_cons, List.length_nil, Nat.reduceAdd, Nat.zero_add, List.range, List.range.loop]
    refine ⟨by ((first | refine dm_none ?_ | refine dks_none ?_ | u_none); intro e he; simp at he), ?_⟩
    exact Goes.stop fun w₁ h₁ => ⟨rfl, rs_rely hF h₁⟩
end
end Go.Proofs.Ytjplnkkcmkpkbaa
/- The machine, 18: a hand, from its start to its end. -/
namespace Go.Proofs.Ytjplnkkcmkpkbaa
open Go.Conc Go.ConcN Go.RowKit Go.Conc.Lib Go.ConcR.Gen Go.ConcN.Gen
open Go.ConcR (KK wgBlock WgAt stA smA rd wr mk DC0)

section
variable {q : Ph} {w w0 : World} {bc bj bo : Nat} {slJ : Value}
set_option maxRecDepth 100000 in
set_option maxHeartbeats 1000000 in
theorem exitW (T : Array Value) (w : World) (hF0 : RS q w0 w ∧ WgLive q.ty q.Wg w) (hc : ChanAt q q.N w) (hsz : T.size = 18) (t3 : T[3]? = some (.pointer (some ⟨q.Wg, 0, none⟩))) (t6 : T[6]? = some (.tuple #[.int .i64 0, .bool false])) :
    ∃ rk, Wk Try.prog q rk none (fun _ => False) (G (b9.at ⟨T, []⟩ (.inRegion ops1 [1] :: .code rest9 :: [.inLoop loop9, .inBlock 0, .code tail9])) [bot]) w := by
  obtain ⟨v0, v1, v2, v3, v4, v5, v6, v7, v8, v9, v10, v11, v12, v13, v14, v15, v16, v17, rfl⟩ := arr18 T hsz
  simp only [List.getElem?_toArray, List.getElem?_cons_zero, List.getElem?_cons_succ, Option.some.injEq] at t3 t6
  subst t3 t6
  have hF : RS q w w ∧ WgLive q.ty q.Wg w := ⟨.refl w, hF0.2⟩
  refine Wk.of_rel 50 _ w ?_ hc
  clear hc
  simp only [ops1, rest9, loop9, tail9, body9, Try.f9, Option.getD_some]
  refine Goes.step rfl (fun _ h₁ => ?_)
  replace hF := rs_rely hF h₁
  clear h₁
  refine goes_oper_k rfl rfl (by k_ne) (fun K hK => ?_)
  go_simp
  refine hK _ _ ⟨?_, ?_⟩
  · first | refine dm_none ?_ | refine dks_none ?_ | u_none
    intro e he
    have hm := mem_listed he
    simp [go_sem, *] at hm
  clear hK K
  try w_num
  refine Goes.step rfl (fun _ h₁ => ?_)
  replace hF := rs_rely hF h₁
  clear h₁
  rw [stepG_region_end]
  simp only [goes_go]
  refine ⟨by ((first | refine dm_none ?_ | refine dks_none ?_ | u_none); intro e he; simp at he), ?_⟩
  refine Goes.step rfl (fun _ h₁ => ?_)
  replace hF := rs_rely hF h₁
  clear h₁
  rw [stepG_seq]
  simp only [goes_go]
  refine ⟨by ((first | refine dm_none ?_ | refine dks_none ?_ | u_none); intro e he; simp at he), ?_⟩
  refine Goes.step rfl (fun _ h₁ => ?_)
  replace hF := rs_rely hF h₁
  clear h₁
  rw [stepG_cond (t := false) rfl]
  simp only [goes_go, if_true, if_false, Bool.false_eq_true, ↓reduceIte]
  refine ⟨by ((first | refine dm_none ?_ | refine dks_none ?_ | u_none); intro e he; simp at he), ?_⟩
  refine Goes.step rfl (fun _ h₁ => ?_)
  replace hF := rs_rely hF h₁
  clear h₁
  refine goes_exit rfl ?_
  refine ⟨by ((first | refine dm_none ?_ | refine dks_none ?_ | u_none); intro e he; simp at he), ?_⟩
  refine Goes.step rfl (fun _ h₁ => ?_)
  replace hF := rs_rely hF h₁
  clear h₁
  rw [stepG_region]
  simp only [goes_go, List.size_toArray, List.length_cons, List.length_nil, Nat.reduceAdd, Nat.zero_add, List.range, List.range.loop]
  refine ⟨by ((first | refine dm_none ?_ | refine dks_none ?_ | u_none); intro e he; simp at he), ?_⟩
  refine Goes.step rfl (fun _ h₁ => ?_)
  replace hF := rs_rely hF h₁
  clear h₁
  refine goes_call rfl rfl (by k_ne) rfl wgLib.f_done (nm_done link) rfl ⟨by ((first | refine dm_none ?_ | refine dks_none ?_ | u_none); intro e he; simp at he), ?_⟩
  walk_nrmf doneFn
  refine Goes.step rfl (fun _ h₁ => ?_)
  replace hF := rs_rely hF h₁
  clear h₁
  rw [stepG_region]
  simp only [goes_go, List.size_toArray, List.length_cons, List.length_nil, Nat.reduceAdd, Nat.zero_add, List.range, List.range.loop]
  refine ⟨by ((first | refine dm_none ?_ | refine dks_none ?_ | u_none); intro e he; simp at he), ?_⟩
  refine Goes.step rfl (fun _ h₁ => ?_)
  replace hF := rs_rely hF h₁
  clear h₁
  refine goes_oper_k rfl rfl (by k_ne) (fun K hK => ?_)
  go_simp
  refine hK _ _ ⟨?_, ?_⟩
  · first | refine dm_none ?_ | refine dks_none ?_ | u_none
    intro e he
    have hm := mem_listed he
    simp [go_sem, *] at hm
  clear hK K
  try w_num
  refine Goes.step rfl (fun _ h₁ => ?_)
  replace hF := rs_rely hF h₁
  clear h₁
  refine goes_call rfl rfl (by k_ne) rfl wgLib.f_add (nm_add link) rfl ⟨by ((first | refine dm_none ?_ | refine dks_none ?_ | u_none); intro e he; simp at he), ?_⟩
  have hA : ∀ (c : Code), (addFn link).body = some c → ∀ (T : Array Value), T = #[.pointer (some ⟨q.Wg, 0, none⟩), .int .i64 (-1)] ++ Array.replicate 115 undef → ∀ (b₀ : Frame) (a₀ : Act) (ops₀ : Array Oper) (i₀ : Nat) (rest₀ : List Nat) (k₀ : List Item) (cs : List Frame), QuitsD Try.prog 7 0 (G (b₀.at (a₀.put ((ops₀[i₀]?).bind (·.dst)) (.tuple #[])) (.inRegion ops₀ rest₀ :: k₀)) cs) → ∀ w, RS q w0 w ∧ WgLive q.ty q.Wg w → Goes Try.prog false (RS q) DC0 (KR0 Try.prog q) 40 (G ((base link.add).at ⟨T, []⟩ [.code c]) (b₀.at a₀ (.inRegion ops₀ (i₀ :: rest₀) :: k₀) :: cs)) w :=
    fun c hc T hT b₀ a₀ ops₀ i₀ rest₀ k₀ cs hq w hF => negC (L := link) (qt := 7) wgLib hc hT hq w hF
  have hF' : RS q w0 _ ∧ WgLive q.ty q.Wg _ := ⟨hF0.1.trans hF.1, hF.2⟩
  refine hA _ ?_ _ ?_ _ _ _ _ _ _ _ ?_ _ hF'
  · rfl
  · simp [Act.eval, addFn]
  q_c stepG_region_end
  q_c stepG_end
  q_leave0 wgLib.f_done
  q_c stepG_region_end
  q_c stepG_end
  exact quitsTail _

/-- a hand, from the go statement to its end -/
theorem handW (hR : ResOk q) (hG : Geom q) (hW : WF q w0 bc bj bo slJ) {svs : Nat → Value} (hJ : Jobs q w0 slJ svs) {r : Nat} (hch : ChanAt q r w0) :
    ∃ rk, Wk Try.prog q rk none (fun _ => False) (born Try.prog (call9 bc bj bo q.Wg)) w0 := by
  refine Wk.of_goes (fun g w h => ?_) 10 _ w0 (startW hW ⟨.refl w0, hJ.live⟩)
  obtain ⟨rfl, hF⟩ := h
  obtain ⟨r', _, h2⟩ := hF.1.chan _ hch
  exact headW hR hG hW hJ exitW (q.N - r') r' w _ rfl hF h2 (by simp [caps]) (by simp [caps]) (by simp [caps]) (by simp [caps]) (by simp [caps]) (by simp [caps])
end
end Go.Proofs.Ytjplnkkcmkpkbaa
