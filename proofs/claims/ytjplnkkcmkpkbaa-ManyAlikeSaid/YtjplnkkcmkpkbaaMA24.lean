/- Several of my texts in one: Mn21. -/
import Derived.Test.YtjplnkkcmkpkbaaMA21
import Derived.Test.YtjplnkkcmkpkbaaMA22
import Derived.Test.YtjplnkkcmkpkbaaMA23
import Derived.Conc.CrowdMono
set_option linter.unusedSimpArgs false
set_option linter.unusedVariables false
/- The machine, 21: many.Run starts its hands. -/
namespace Go.Proofs.Ytjplnkkcmkpkbaa
open Go.Conc Go.ConcN Go.RowKit Go.Conc.Lib Go.ConcR.Gen Go.ConcN.Gen
open Go.ConcR (KK wgBlock WgAt stA smA rd wr mk DC0)

section
variable {P : Program} {q : Ph} {A A' Fin : Goroutine → World → Prop}
theorem MW2.mono (h : ∀ g w, A g w → A' g w) {vs : Nat} {g : Goroutine} {w : World} (x : MW2 P q A Fin vs g w) : MW2 P q A' Fin vs g w :=
  ⟨x.1, fun v hv hw => ⟨(x.2 v hv hw).1, fun e => let ⟨g', h1, m, h2⟩ := (x.2 v hv hw).2 e; ⟨g', h1, m, goes_mono h h2⟩⟩⟩
theorem MW1.mono (h : ∀ g w, A g w → A' g w) {g : Goroutine} {w : World} (x : MW1 P q A Fin g w) : MW1 P q A' Fin g w :=
  ⟨x.1, fun v hv hw => let ⟨g', h1, h2, h3⟩ := x.2 v hv hw; ⟨g', h1, h2, fun e => let ⟨m, h4⟩ := h3 e; ⟨m, goes_mono (fun _ _ y => MW2.mono h y) h4⟩⟩⟩
theorem MKd.mono (h : ∀ g w, A g w → A' g w) {g : Goroutine} {w : World} (x : MKd P q A g w) : MKd P q A' g w :=
  let ⟨h0, g', h1, m, h2⟩ := x; ⟨h0, g', h1, m, goes_mono h h2⟩
end
theorem arr39 (T : Array Value) (h : T.size = 39) : ∃ v0 v1 v2 v3 v4 v5 v6 v7 v8 v9 v10 v11 v12 v13 v14 v15 v16 v17 v18 v19 v20 v21 v22 v23 v24 v25 v26 v27 v28 v29 v30 v31 v32 v33 v34 v35 v36 v37 v38, T = #[v0, v1, v2, v3, v4, v5, v6, v7, v8, v9, v10, v11, v12, v13, v14, v15, v16, v17, v18, v19, v20, v21, v22, v23, v24, v25, v26, v27, v28, v29, v30, v31, v32, v33, v34, v35, v36, v37, v38] := by
  obtain ⟨l⟩ := T
  match l, h with
  | v0 :: v1 :: v2 :: v3 :: v4 :: v5 :: v6 :: v7 :: v8 :: v9 :: v10 :: v11 :: v12 :: v13 :: v14 :: v15 :: v16 :: v17 :: v18 :: v19 :: v20 :: v21 :: v22 :: v23 :: v24 :: v25 :: v26 :: v27 :: v28 :: v29 :: v30 :: v31 :: v32 :: v33 :: v34 :: v35 :: v36 :: v37 :: v38 :: [], _ => exact ⟨v0, v1, v2, v3, v4, v5, v6, v7, v8, v9, v10, v11, v12, v13, v14, v15, v16, v17, v18, v19, v20, v21, v22, v23, v24, v25, v26, v27, v28, v29, v30, v31, v32, v33, v34, v35, v36, v37, v38, rfl⟩
abbrev b4 : Frame := base 4
noncomputable def body4 : Code := Try.f4.body.getD .skip
/-- behind the making of the group -/
noncomputable def after4 : Code := match body4 with
  | .seq _ (.seq _ (.seq _ (.seq _ (.seq _ (.seq _ (.seq _ c)))))) => c
  | _ => .skip
noncomputable def loopS : Code := match after4 with
  | .seq (.seq _ (.block _ (.loop c))) _ => c
  | _ => .skip
noncomputable def tail4 : Code := match after4 with
  | .seq _ c => c
  | _ => .skip
noncomputable def ops17 : Array Oper := match tail4 with
  | .seq (.region _ ops _) _ => ops
  | _ => #[]
noncomputable def rest18 : Code := match tail4 with
  | .seq _ c => c
  | _ => .skip
/-- what goroutine 0 keeps while it starts its hands -/
structure RT4 (q : Ph) (bc bj bo : Nat) (T : Array Value) : Prop where
  size : T.size = 39
  t3 : T[3]? = some (.pointer (some ⟨bj, 0, none⟩))
  t6 : T[6]? = some (.pointer (some ⟨bo, 0, none⟩))
  t7 : T[7]? = some (.pointer (some ⟨bc, 0, none⟩))
  t9 : T[9]? = some (.pointer (some ⟨q.Wg, 0, none⟩))
  t31 : T[31]? = some (.int .i64 (q.n : Nat))
section
variable {q : Ph} {w0 : World} {bc bj bo : Nat} {slJ : Value} {cs : List Frame}
/-- at the head of the loop in Wait, some frame of this make below -/
def AnchR (q : Ph) (w0 : World) (bc bj bo : Nat) (cs : List Frame) (g : Goroutine) (w : World) : Prop :=
  ∃ T, RT4 q bc bj bo T ∧ AnchM link q w0 (b4.at ⟨T, []⟩ (.inRegion ops17 [0] :: [.code rest18])) cs g w
def Xr (q : Ph) (A : Goroutine → World → Prop) : Nat → Goroutine → World → Prop
  | 0 => MKd Try.prog q A
  | r + 1 => MKdS Try.prog q (Spw Try.prog q (Wt Try.prog q A) r)
theorem spw_iff {A : Goroutine → World → Prop} {r : Nat} {g : Goroutine} {w : World} : Spw Try.prog q (Wt Try.prog q A) r g w ↔ ∃ m, Goes Try.prog true (RS q) (DM q) (Xr q A r) m g w := by
  cases r <;> exact Iff.rfl
theorem Jobs.at {svs : Nat → Value} {w : World} (h : Jobs q w0 slJ svs) (r : RS q w0 w) : Jobs q w slJ svs :=
  ⟨h.res, Nat.le_trans h.low r.grow, r.pay h.pay, r.live h.live, fun k hk => let ⟨J, oJ, cap, e1, e2, e3, e4⟩ := h.job k hk; ⟨J, oJ, cap, e1, e2, (low_cell r e2).trans e3, fun w' r' => e4 w' (r.trans r')⟩⟩
set_option maxRecDepth 100000 in
set_option maxHeartbeats 1000000 in
theorem startAll (hR : ResOk q) (hG : Geom q) (hW : WF q w0 bc bj bo slJ) {svs : Nat → Value} (hJ : Jobs q w0 slJ svs) (hn : q.n < 9) :
    ∀ (r : Nat), ∃ m, ∀ (i : Nat) (w : World) (T : Array Value), i + r = q.n → RS q w0 w ∧ WgLive q.ty q.Wg w → RT4 q bc bj bo T → T[32]? = some (.int .i64 (i : Nat)) →
      Goes Try.prog true (RS q) (DM q) (Xr q (AnchR q w0 bc bj bo cs) r) m (G (b4.at ⟨T, []⟩ (.code loopS :: [.inLoop loopS, .inBlock 2, .code tail4])) cs) w := by
  intro r
  induction r with
  | zero =>
    refine ⟨30, fun i w T hi hF hT t32 => ?_⟩
    obtain ⟨hsz, t3, t6, t7, t9, t31⟩ := hT
    obtain ⟨v0, v1, v2, v3, v4, v5, v6, v7, v8, v9, v10, v11, v12, v13, v14, v15, v16, v17, v18, v19, v20, v21, v22, v23, v24, v25, v26, v27, v28, v29, v30, v31, v32, v33, v34, v35, v36, v37, v38, rfl⟩ := arr39 T hsz
    simp only [List.getElem?_toArray, List.getElem?_cons_zero, List.getElem?_cons_succ, Option.some.injEq] at t3 t6 t7 t9 t31 t32
    subst t3 t6 t7 t9 t31 t32
    simp only [loopS, tail4, after4, body4, Try.f4, Option.getD_some]
    refine Goes.step rfl (fun _ h₁ => ?_)
    replace hF := rs_rely hF h₁
    clear h₁
    rw [stepG_seq]
    simp only [goes_go]
    refine ⟨by ((first | refine dm_none ?_ | refine dks_none ?_ | u_none); intro e he; simp at he), ?_⟩
    refine Goes.step rfl (fun _ h₁ => ?_)
    replace hF := rs_rely hF h₁
    clear h₁
    rw [stepG_region]
    simp only [goes_go, List.size_toArray, List.length_cons, List.length_nil, Nat.reduceAdd, Nat.zero_add, List.range, List.range.loop]
    refine ⟨by ((first | refine dm_none ?_ | refine dks_none ?_ | u_none); intro e he; simp at he), ?_⟩
    refine Goes.step rfl (fun _ h₁ => ?_)
    replace hF := rs_rely hF h₁
    clear h₁
    refine goes_oper_k rfl rfl (by k_ne) (fun K hK => ?_)
    go_simp
    refine hK _ _ ⟨?_, ?_⟩
    · first | refine dm_none ?_ | refine dks_none ?_ | u_none
      intro e he
      have hm := mem_listed he
      simp [go_sem, *] at hm
    clear hK K
    try w_num
    refine Goes.step rfl (fun _ h₁ => ?_)
    replace hF := rs_rely hF h₁
    clear h₁
    rw [stepG_region_end]
    simp only [goes_go]
    refine ⟨by ((first | refine dm_none ?_ | refine dks_none ?_ | u_none); intro e he; simp at he), ?_⟩
    refine Goes.step rfl (fun _ h₁ => ?_)
    replace hF := rs_rely hF h₁
    clear h₁
    rw [stepG_seq]
    simp only [goes_go]
    refine ⟨by ((first | refine dm_none ?_ | refine dks_none ?_ | u_none); intro e he; simp at he), ?_⟩
    refine Goes.step rfl (fun _ h₁ => ?_)
    replace hF := rs_rely hF h₁
    clear h₁
    rw [stepG_cond (t := false) (by first | rfl | (simp [Act.eval]; omega))]
    simp only [goes_go, if_true, if_false, Bool.false_eq_true, ↓reduceIte]
    refine ⟨by ((first | refine dm_none ?_ | refine dks_none ?_ | u_none); intro e he; simp at he), ?_⟩
    refine Goes.step rfl (fun _ h₁ => ?_)
    replace hF := rs_rely hF h₁
    clear h₁
    refine goes_exit rfl ?_
    refine ⟨by ((first | refine dm_none ?_ | refine dks_none ?_ | u_none); intro e he; simp at he), ?_⟩
    refine Goes.step rfl (fun _ h₁ => ?_)
    replace hF := rs_rely hF h₁
    clear h₁
    rw [stepG_seq]
    simp only [goes_go]
    refine ⟨by ((first | refine dm_none ?_ | refine dks_none ?_ | u_none); intro e he; simp at he), ?_⟩
    refine Goes.step rfl (fun _ h₁ => ?_)
    replace hF := rs_rely hF h₁
    clear h₁
    rw [stepG_region]
    simp only [goes_go, List.size_toArray, List.length_cons, List.length_nil, Nat.reduceAdd, Nat.zero_add, List.range, List.range.loop]
    refine ⟨by ((first | refine dm_none ?_ | refine dks_none ?_ | u_none); intro e he; simp at he), ?_⟩
    refine Goes.step rfl (fun _ h₁ => ?_)
    replace hF := rs_rely hF h₁
    clear h₁
    refine goes_call rfl rfl (by k_ne) rfl wgLib.f_wait (nm_wait link) rfl ⟨by ((first | refine dm_none ?_ | refine dks_none ?_ | u_none); intro e he; simp at he), ?_⟩
    have hA : ∀ (c : Code), (waitFn link).body = some c → ∀ (T' : Array Value), T' = #[.pointer (some ⟨q.Wg, 0, none⟩)] ++ Array.replicate 83 undef → ∀ (b₀ : Frame) (a₀ : Act) (ops₀ : Array Oper) (i₀ : Nat) (rest₀ : List Nat) (k₀ : List Item) (w : World), RS q w0 w ∧ WgLive q.ty q.Wg w →
        Goes Try.prog true (RS q) (DM q) (MKd Try.prog q (AnchM link q w0 (b₀.at a₀ (.inRegion ops₀ (i₀ :: rest₀) :: k₀)) cs)) 10 (G ((base link.wait).at ⟨T', []⟩ [.code c]) (b₀.at a₀ (.inRegion ops₀ (i₀ :: rest₀) :: k₀) :: cs)) w := by
      intro c hc T' hT' b₀ a₀ ops₀ i₀ rest₀ k₀ w hF
      subst hT'
      have := waitStart (L := link) (b₀ := b₀) (a₀ := a₀) (ops₀ := ops₀) (i₀ := i₀) (rest₀ := rest₀) (k₀ := k₀) (cs := cs) wgLib w hF
      rw [hc] at this
      exact this
    refine goes_more (n := 10) ?_ (by omega)
    refine goes_mono (fun g w h => ?_) (hA _ ?_ _ ?_ _ _ _ _ _ _ _ hF)
    · refine MKd.mono (fun g w h => ?_) h
      exact ⟨_, ⟨rfl, rfl, rfl, rfl, rfl, rfl⟩, h⟩
    · rfl
    · simp [Act.eval, waitFn]
  | succ r ih =>
    obtain ⟨mr, ih⟩ := ih
    refine ⟨60, fun i w T hi hF hT t32 => ?_⟩
    obtain ⟨hsz, t3, t6, t7, t9, t31⟩ := hT
    obtain ⟨v0, v1, v2, v3, v4, v5, v6, v7, v8, v9, v10, v11, v12, v13, v14, v15, v16, v17, v18, v19, v20, v21, v22, v23, v24, v25, v26, v27, v28, v29, v30, v31, v32, v33, v34, v35, v36, v37, v38, rfl⟩ := arr39 T hsz
    simp only [List.getElem?_toArray, List.getElem?_cons_zero, List.getElem?_cons_succ, Option.some.injEq] at t3 t6 t7 t9 t31 t32
    subst t3 t6 t7 t9 t31 t32
    have hw : IntKind.i64.wrap ((i : Int) + 1) = ((i + 1 : Nat) : Int) := by rw [IntKind.wrap_i64]; omega
    simp only [loopS, tail4, after4, body4, Try.f4, Option.getD_some]
    refine Goes.step rfl (fun _ h₁ => ?_)
    replace hF := rs_rely hF h₁
    clear h₁
    rw [stepG_seq]
    simp only [goes_go]
    refine ⟨by ((first | refine dm_none ?_ | refine dks_none ?_ | u_none); intro e he; simp at he), ?_⟩
    refine Goes.step rfl (fun _ h₁ => ?_)
    replace hF := rs_rely hF h₁
    clear h₁
    rw [stepG_region]
    simp only [goes_go, List.size_toArray, List.length_cons, List.length_nil, Nat.reduceAdd, Nat.zero_add, List.range, List.range.loop]
    refine ⟨by ((first | refine dm_none ?_ | refine dks_none ?_ | u_none); intro e he; simp at he), ?_⟩
    refine Goes.step rfl (fun _ h₁ => ?_)
    replace hF := rs_rely hF h₁
    clear h₁
    refine goes_oper_k rfl rfl (by k_ne) (fun K hK => ?_)
    go_simp
    refine hK _ _ ⟨?_, ?_⟩
    · first | refine dm_none ?_ | refine dks_none ?_ | u_none
      intro e he
      have hm := mem_listed he
      simp [go_sem, *] at hm
    clear hK K
    try w_num
    refine Goes.step rfl (fun _ h₁ => ?_)
    replace hF := rs_rely hF h₁
    clear h₁
    rw [stepG_region_end]
    simp only [goes_go]
    refine ⟨by ((first | refine dm_none ?_ | refine dks_none ?_ | u_none); intro e he; simp at he), ?_⟩
    refine Goes.step rfl (fun _ h₁ => ?_)
    replace hF := rs_rely hF h₁
    clear h₁
    rw [stepG_seq]
    simp only [goes_go]
    refine ⟨by ((first | refine dm_none ?_ | refine dks_none ?_ | u_none); intro e he; simp at he), ?_⟩
    refine Goes.step rfl (fun _ h₁ => ?_)
    replace hF := rs_rely hF h₁
    clear h₁
    rw [stepG_cond (t := true) (by first | rfl | (simp [Act.eval]; omega))]
    simp only [goes_go, if_true, if_false, Bool.false_eq_true, ↓reduceIte]
    refine ⟨by ((first | refine dm_none ?_ | refine dks_none ?_ | u_none); intro e he; simp at he), ?_⟩
    refine Goes.step rfl (fun _ h₁ => ?_)
    replace hF := rs_rely hF h₁
    clear h₁
    rw [stepG_skip]
    simp only [goes_go]
    refine ⟨by ((first | refine dm_none ?_ | refine dks_none ?_ | u_none); intro e he; simp at he), ?_⟩
    refine Goes.step rfl (fun _ h₁ => ?_)
    replace hF := rs_rely hF h₁
    clear h₁
    rw [stepG_seq]
    simp only [goes_go]
    refine ⟨by ((first | refine dm_none ?_ | refine dks_none ?_ | u_none); intro e he; simp at he), ?_⟩
    refine Goes.step rfl (fun _ h₁ => ?_)
    replace hF := rs_rely hF h₁
    clear h₁
    rw [stepG_block]
    simp only [goes_go]
    refine ⟨by ((first | refine dm_none ?_ | refine dks_none ?_ | u_none); intro e he; simp at he), ?_⟩
    refine Goes.step rfl (fun _ h₁ => ?_)
    replace hF := rs_rely hF h₁
    clear h₁
    rw [stepG_seq]
    simp only [goes_go]
    refine ⟨by ((first | refine dm_none ?_ | refine dks_none ?_ | u_none); intro e he; simp at he), ?_⟩
    refine Goes.step rfl (fun _ h₁ => ?_)
    replace hF := rs_rely hF h₁
    clear h₁
    rw [stepG_region]
    simp only [goes_go, List.size_toArray, List.length_cons, List.length_nil, Nat.reduceAdd, Nat.zero_add, List.range, List.range.loop]
    refine ⟨by ((first | refine dm_none ?_ | refine dks_none ?_ | u_none); intro e he; simp at he), ?_⟩
    refine Goes.step rfl (fun _ h₁ => ?_)
    replace hF := rs_rely hF h₁
    clear h₁
    refine goes_call rfl rfl (by k_ne) rfl wgLib.f_add (nm_add link) rfl ⟨by ((first | refine dm_none ?_ | refine dks_none ?_ | u_none); intro e he; simp at he), ?_⟩
    have hA : ∀ (c : Code), (addFn link).body = some c → ∀ (T' : Array Value), T' = #[.pointer (some ⟨q.Wg, 0, none⟩), .int .i64 1] ++ Array.replicate 115 undef → ∀ (b₀ : Frame) (a₀ : Act) (ops₀ : Array Oper) (i₀ : Nat) (rest₀ : List Nat) (k₀ : List Item) (w : World), RS q w0 w ∧ WgLive q.ty q.Wg w →
        (∀ w, RS q w0 w ∧ WgLive q.ty q.Wg w → Goes Try.prog true (RS q) (DM q) (MGo Try.prog q (Spw Try.prog q (Wt Try.prog q (AnchR q w0 bc bj bo cs)) r)) 10 (G (b₀.at (a₀.put ((ops₀[i₀]?).bind (·.dst)) (.tuple #[])) (.inRegion ops₀ rest₀ :: k₀)) cs) w) →
        Goes Try.prog true (RS q) (DM q) (MKdS Try.prog q (Spw Try.prog q (Wt Try.prog q (AnchR q w0 bc bj bo cs)) r)) 40 (G ((base link.add).at ⟨T', []⟩ [.code c]) (b₀.at a₀ (.inRegion ops₀ (i₀ :: rest₀) :: k₀) :: cs)) w := by
      intro c hc T' hT' b₀ a₀ ops₀ i₀ rest₀ k₀ w hF hT
      subst hT'
      have := posM (L := link) wgLib hG hT w hF
      rw [hc] at this
      exact this
    refine goes_more (n := 40) ?_ (by omega)
    refine hA _ ?_ _ ?_ _ _ _ _ _ _ _ hF ?_
    · rfl
    · simp [Act.eval, addFn]
    clear hF hA
    intro w hF
    walk_nrm
    refine Goes.step rfl (fun _ h₁ => ?_)
    replace hF := rs_rely hF h₁
    clear h₁
    rw [stepG_region_end]
    simp only [goes_go]
    refine ⟨by ((first | refine dm_none ?_ | refine dks_none ?_ | u_none); intro e he; simp at he), ?_⟩
    refine Goes.step rfl (fun _ h₁ => ?_)
    replace hF := rs_rely hF h₁
    clear h₁
    rw [stepG_region]
    simp only [goes_go, List.size_toArray, List.length_cons, List.length_nil, Nat.reduceAdd, Nat.zero_add, List.range, List.range.loop]
    refine ⟨by ((first | refine dm_none ?_ | refine dks_none ?_ | u_none); intro e he; simp at he), ?_⟩
    refine Goes.step rfl (fun _ h₁ => ?_)
    replace hF := rs_rely hF h₁
    clear h₁
    refine goes_oper_k rfl rfl (by k_ne) (fun K hK => ?_)
    go_simp
    refine hK _ _ ⟨?_, ?_⟩
    · first | refine dm_none ?_ | refine dks_none ?_ | u_none
      intro e he
      have hm := mem_listed he
      simp [go_sem, *] at hm
    clear hK K
    try w_num
    refine Goes.stop fun w₂ h₂ => ?_
    replace hF := rs_rely hF h₂
    clear h₂
    refine ⟨rfl, _, _, (stepG_spawn (d := call9 bc bj bo q.Wg) (w' := w₂) (f := .func 9) (c := #[.pointer (some ⟨bc, 0, none⟩), .pointer (some ⟨bj, 0, none⟩), .pointer (some ⟨bo, 0, none⟩), .pointer (some ⟨q.Wg, 0, none⟩)]) rfl rfl (by k_ne) (by simp [go_sem, call9, Deferred.ofValue]) rfl).trans (by rw [listed_none (by simp [go_sem])]), fun ⟨r1, hc1⟩ _ => handW hR hG (hW.at hF.1) (hJ.at hF.1) hc1, ?_⟩
    rw [spw_iff]
    refine ⟨mr + 10, ?_⟩
    walk_nrm
    refine Goes.step rfl (fun _ h₁ => ?_)
    replace hF := rs_rely hF h₁
    clear h₁
    rw [stepG_region_end]
    simp only [goes_go]
    refine ⟨by ((first | refine dm_none ?_ | refine dks_none ?_ | u_none); intro e he; simp at he), ?_⟩
    refine Goes.step rfl (fun _ h₁ => ?_)
    replace hF := rs_rely hF h₁
    clear h₁
    rw [stepG_inBlock]
    simp only [goes_go]
    refine ⟨by ((first | refine dm_none ?_ | refine dks_none ?_ | u_none); intro e he; simp at he), ?_⟩
    refine Goes.step rfl (fun _ h₁ => ?_)
    replace hF := rs_rely hF h₁
    clear h₁
    rw [stepG_region]
    simp only [goes_go, List.size_toArray, List.length_cons, List.length_nil, Nat.reduceAdd, Nat.zero_add, List.range, List.range.loop]
    refine ⟨by ((first | refine dm_none ?_ | refine dks_none ?_ | u_none); intro e he; simp at he), ?_⟩
    refine Goes.step rfl (fun _ h₁ => ?_)
    replace hF := rs_rely hF h₁
    clear h₁
    refine goes_oper_k rfl rfl (by k_ne) (fun K hK => ?_)
    go_simp
    refine hK _ _ ⟨?_, ?_⟩
    · first | refine dm_none ?_ | refine dks_none ?_ | u_none
      intro e he
      have hm := mem_listed he
      simp [go_sem, *] at hm
    clear hK K
    try w_num
    refine Goes.step rfl (fun _ h₁ => ?_)
    replace hF := rs_rely hF h₁
    clear h₁
    refine goes_oper_k rfl rfl (by k_ne) (fun K hK => ?_)
    go_simp
    refine hK _ _ ⟨?_, ?_⟩
    · first | refine dm_none ?_ | refine dks_none ?_ | u_none
      intro e he
      have hm := mem_listed he
      simp [go_sem, *] at hm
    clear hK K
    try w_num
    refine Goes.step rfl (fun _ h₁ => ?_)
    replace hF := rs_rely hF h₁
    clear h₁
    rw [stepG_region_end]
    simp only [goes_go]
    refine ⟨by ((first | refine dm_none ?_ | refine dks_none ?_ | u_none); intro e he; simp at he), ?_⟩
    refine Goes.step rfl (fun _ h₁ => ?_)
    replace hF := rs_rely hF h₁
    clear h₁
    rw [stepG_inLoop]
    simp only [goes_go]
    refine ⟨by ((first | refine dm_none ?_ | refine dks_none ?_ | u_none); intro e he; simp at he), ?_⟩
    refine goes_more (n := mr) (ih (i + 1) _ _ (by omega) hF ⟨rfl, rfl, rfl, rfl, rfl, rfl⟩ ?_) (by omega)
    simp
end
end Go.Proofs.Ytjplnkkcmkpkbaa
