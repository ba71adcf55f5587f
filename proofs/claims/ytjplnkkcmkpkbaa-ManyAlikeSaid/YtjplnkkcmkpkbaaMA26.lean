/- Several of my texts in one: Mn26, Mn30. -/
import Derived.Test.YtjplnkkcmkpkbaaMA25
import Derived.Conc.CompanyDraw
set_option linter.unusedSimpArgs false
set_option linter.unusedVariables false
/- The machine, 26: many.Run hands out the jobs' numbers, closes the channel, makes the group. -/
namespace Go.Proofs.Ytjplnkkcmkpkbaa
open Go.Conc Go.ConcN Go.RowKit Go.Conc.Lib Go.ConcR.Gen Go.ConcN.Gen
open Go.ConcR (KK wgBlock WgAt stA smA rd wr mk DC0)

section
variable {P : Program} {E : Event → Prop} {Stop : Goroutine → World → Prop} {b : Frame} {a : Act} {ops : Array Oper} {i : Nat} {rest : List Nat} {k : List Item} {cs : List Frame} {o : Oper} {K : World → Prop} {w : World}
/-- an operation that leaves the world as it is -/
theorem gz_ld {v : Value} (hK : ∀ {w w₁ : World}, K w → AtRel w w₁ → K w₁) (ho : ops[i]? = some o) (hw : Region.wanted o (yielded ops a.tmps) = true) (hk : b.kind ≠ .early) (hF : K w) (hr : ∀ w, K w → (execOp a.eval o).run P w = .ok (.value v) w)
    (he : ∀ w, K w → ∀ e ∈ (execOp a.eval o).events P w #[], E e) (next : ∀ w', K w' → Gz P (DE E) Stop (G (b.at (a.put o.dst v) (.inRegion ops rest :: k)) cs) w') : Gz P (DE E) Stop (G (b.at a (.inRegion ops (i :: rest) :: k)) cs) w :=
  .step rfl fun w1 h1 => ⟨_, _, _, stepG_value ho hw hk (hr w1 (hK hF h1)), fun e hm => he w1 (hK hF h1) e (mem_listed hm), next _ (hK hF h1)⟩
end

/-- the first i numbers -/
def bufK (i : Nat) : Array Value := ((List.range' 0 i).map fun k => Value.int .i64 (k : Nat)).toArray
theorem bufK_push (i : Nat) : (bufK i).push (.int .i64 (i : Nat)) = bufK (i + 1) := by
  unfold bufK
  rw [List.range'_1_concat]
  simp
theorem bufK_size (i : Nat) : (bufK i).size = i := by simp [bufK]
/-- the world behind i sends -/
structure Sent (W5 : World) (Ch N : Nat) (i : Nat) (w : World) : Prop where
  blk : ∀ b, b ≠ Ch → w.heap[b]? = W5.heap[b]?
  ch : w.heap[Ch]? = some (.chan N (bufK i) false i 0 false)
  size : w.heap.size = W5.heap.size
  os : w.os = W5.os
  tape : w.tape = W5.tape
  out : w.output = W5.output
section
variable {W5 w w₁ : World} {Ch N i : Nat}
theorem Sent.rely (h : Sent W5 Ch N i w) (r : AtRel w w₁) : Sent W5 Ch N i w₁ := by
  obtain ⟨d, rfl⟩ := r
  exact ⟨h.blk, h.ch, h.size, h.os, h.tape, h.out⟩
theorem Sent.cell (h : Sent W5 Ch N i w) (a : Addr) (ha : a.block ≠ Ch) : w.cell? a = W5.cell? a := by
  obtain ⟨b, o, s⟩ := a
  simp only [World.cell?, h.blk b ha]
theorem Sent.push (h : Sent W5 Ch N i w) {d cap s r : Nat} {buf : Array Value} {tm : Bool} (hc : w.heap[Ch]? = some (.chan cap buf false s r tm)) : Sent W5 Ch N (i + 1) ((w.at d).setChan Ch cap (buf.push (.int .i64 (i : Nat))) false (s + 1) r tm) := by
  have e := h.ch
  rw [hc] at e
  simp only [Option.some.injEq, Obj.chan.injEq] at e
  obtain ⟨rfl, rfl, _, rfl, rfl, rfl⟩ := e
  have hlt : Ch < w.heap.size := (Array.getElem?_eq_some_iff.1 hc).1
  refine ⟨fun b hb => ?_, ?_, ?_, h.os, h.tape, h.out⟩
  · simp only [World.setChan, World.at]
    rw [Array.getElem?_setIfInBounds_ne (Ne.symm hb)]
    exact h.blk b hb
  · simp only [World.setChan, World.at]
    rw [Array.getElem?_setIfInBounds_self_of_lt hlt, bufK_push]
  · simp only [World.setChan, World.at, Array.size_setIfInBounds]
    exact h.size
end
noncomputable def ops8 : Array Oper := match loopK with
  | .seq _ (.seq _ (.seq (.block _ (.seq _ (.region _ ops _))) _)) => ops
  | _ => #[]
noncomputable def rest9k : Code := match loopK with
  | .seq _ (.seq _ (.seq _ c)) => c
  | _ => .skip
theorem o8_2 : ops8[2]? = some { dst := none, op := .send (.tmp 27) (.tmp 28), type := 0, pos := "many.go:19", after := #[edD 0, edD 1], guard := none } := by kernel_rfl
/-- the loop's items -/
noncomputable def itK : List Item := [.inLoop loopK, .inBlock 0, .code after6]
section
variable {E : Event → Prop} {W5 w : World} {aJ : Option Addr} {capJ N N0 : Nat} {a : Int} {cs : List Frame} {I : Trace → Prop} {Ng : Nat}
def AtHd (W5 : World) (N0 : Nat) (a : Int) (slJ : Value) (N : Nat) (cs : List Frame) (i : Nat) (g : Goroutine) (w : World) : Prop :=
  (∃ v8 v25 v26 v27 v28 v29, g = G (b4.at ⟨T6 N0 a slJ N i v8 v25 v26 v27 v28 v29, []⟩ (.code loopK :: itK)) cs) ∧ Sent W5 (N0 + 3) N i w
set_option maxRecDepth 100000 in
set_option maxHeartbeats 4000000 in
theorem sendGo (slJ : Value) {i : Nat} (hi : i < N) (hN : N ≤ 5864062014634) (hb : W5.cell? ⟨N0 + 4, 0, none⟩ = some (.chan (some (N0 + 3)))) (hE : E ⟨.cell ⟨N0 + 4, 0, none⟩, false, false⟩) {g : Goroutine} (h : AtHd W5 N0 a slJ N cs i g w) :
    Gz Try.prog (DE E) (fun g w => AtSend Try.prog (N0 + 3) (.int .i64 i) (fun g => ∃ v8 v25 v26 v27 v28 v29, g = G (b4.at ⟨T6 N0 a slJ N i v8 v25 v26 v27 v28 v29, []⟩ (.inRegion ops8 [] :: .inBlock 1 :: .code rest9k :: itK)) cs) g w ∧ Sent W5 (N0 + 3) N i w) g w := by
  obtain ⟨⟨v8, v25, v26, v27, v28, v29, rfl⟩, hF⟩ := h
  have d1 : decide ((i : Int) < (N : Int)) = true := decide_eq_true (by omega)
  refine Gz.goes (n := 60) ?_
  simp only [T6, itK, ops8, rest9k, loopK, after6, rest6, body4, Try.f4, Option.getD_some]
  u_c stepG_seq Sent.rely hF
  u_reg Sent.rely hF
  u_op Sent.rely hF
  u_c stepG_region_end Sent.rely hF
  u_c stepG_seq Sent.rely hF
  u_cond true Sent.rely hF
  u_c stepG_skip Sent.rely hF
  u_c stepG_seq Sent.rely hF
  u_c stepG_block Sent.rely hF
  u_c stepG_seq Sent.rely hF
  u_reg Sent.rely hF
  u_op Sent.rely hF
  u_op Sent.rely hF
  u_c stepG_region_end Sent.rely hF
  u_reg Sent.rely hF
  refine Goes.stop (fun w₁ h₁ => ?_)
  replace hF := Sent.rely hF h₁
  clear h₁
  refine gz_ld (v := .chan (some (N0 + 3))) Sent.rely rfl rfl (by k_ne) hF (fun w hw => ?_) (fun w hw e he => ?_) (fun w' hF' => ?_)
  · (have hx := (hw.cell ⟨N0 + 4, 0, none⟩ (by simp)).trans hb; unfold execOp; simp [go_sem, Act.eval, hx])
  · (have hx := (hw.cell ⟨N0 + 4, 0, none⟩ (by simp)).trans hb; unfold execOp at he; simp [go_sem, Act.eval, hx] at he; subst he; exact hE)
  replace hF := hF'
  clear hF'
  refine Gz.goes (n := 60) ?_
  walk_nrm
  u_op Sent.rely hF
  refine Goes.stop fun w₁ h₁ => .stop fun w₂ h₂ => ?_
  have hS := (hF.rely h₁).rely h₂
  refine ⟨⟨rfl, ⟨N, bufK i, i, 0, false, hS.ch, by rw [bufK_size]; exact hi⟩, ?g2, .tuple #[], ?hs, ?ha⟩, hS⟩
  case hs =>
    intro d
    refine (stepG_comm (cases := #[scase (N0 + 3) (.int .i64 i) (.tuple #[])]) (blocking := true) (shape := .send) (w' := w₂.at d) rfl rfl (by k_ne) (by unfold execOp; simp [go_sem, scase, Act.eval])).trans ?_
    rw [listed_none (by unfold execOp; simp [go_sem])]
  case ha => exact ⟨_, _, _, _, _, _, rfl⟩
set_option maxRecDepth 100000 in
theorem sendBack (slJ : Value) {i : Nat} (hi : i < N) (hN : N ≤ 5864062014634) {g : Goroutine} (h : (∃ v8 v25 v26 v27 v28 v29, g = G (b4.at ⟨T6 N0 a slJ N i v8 v25 v26 v27 v28 v29, []⟩ (.inRegion ops8 [] :: .inBlock 1 :: .code rest9k :: itK)) cs)) (hF : Sent W5 (N0 + 3) N (i + 1) w) :
    Gz Try.prog (DE E) (AtHd W5 N0 a slJ N cs (i + 1)) g w := by
  obtain ⟨v8, v25, v26, v27, v28, v29, rfl⟩ := h
  have hw : IntKind.i64.wrap ((i : Int) + 1) = ((i + 1 : Nat) : Int) := by rw [IntKind.wrap_i64]; omega
  refine Gz.goes (n := 60) ?_
  simp only [T6, itK, ops8, rest9k, loopK, after6, rest6, body4, Try.f4, Option.getD_some]
  u_c stepG_region_end Sent.rely hF
  u_c stepG_inBlock Sent.rely hF
  u_reg Sent.rely hF
  u_op Sent.rely hF
  u_op Sent.rely hF
  u_c stepG_region_end Sent.rely hF
  u_c stepG_inLoop Sent.rely hF
  exact Goes.stop fun w₁ h₁ => .stop fun w₂ h₂ => ⟨⟨_, _, _, _, _, _, rfl⟩, (hF.rely h₁).rely h₂⟩
theorem sendLoop (slJ : Value) (hm : KeepsMute Ng I) (hD : ∀ t fn pos w w' es, DE E w w' es → I t → I (t ++ MemOp.ofEvents 0 fn pos es)) (hS : ∀ t fn pos s, I t → I (t ++ #[{ g := 0, fn, pos, act := .send (N0 + 3) s }, { g := 0, fn, pos, act := .sendDone (N0 + 3) s }]))
    (hN : N ≤ 5864062014634) (hb : W5.cell? ⟨N0 + 4, 0, none⟩ = some (.chan (some (N0 + 3)))) (hE : E ⟨.cell ⟨N0 + 4, 0, none⟩, false, false⟩) : ∀ (r i : Nat) (m : Machine) (t : Trace), i + r = N → Stand Try.prog Ng I (AtHd W5 N0 a slJ N cs i) m t → Gets Try.prog m t (Stand Try.prog Ng I (AtHd W5 N0 a slJ N cs N)) := by
  intro r
  induction r with
  | zero =>
    intro i m t hi h
    obtain rfl : i = N := by omega
    exact .stop h
  | succ r ih =>
    intro i m t hi h
    refine (walkR hm hD (h.mono fun g w x => sendGo slJ (by omega) hN hb hE x)).bind fun m t h => ?_
    refine (sendR hm hS h).bind fun m t h => ?_
    refine (walkR hm hD (h.mono fun g w' ⟨h1, w, d, cap, buf, s, r, tm, h2, h3, h4⟩ => ?_)).bind fun m t h => ih (i + 1) m t (by omega) h
    subst h4
    exact sendBack slJ (by omega) hN h1 (h2.push h3)
end
end Go.Proofs.Ytjplnkkcmkpkbaa
/- The machine, 30: goroutine 0, a region that draws its order, whose operations yield what they yield in whatever order. -/
namespace Go.Proofs.Ytjplnkkcmkpkbaa
open Go.Conc Go.ConcN Go.RowKit Go.Conc.Lib Go.ConcR.Gen Go.ConcN.Gen
open Go.ConcR (KK wgBlock WgAt stA smA rd wr mk DC0)

/-- the operations wait for earlier ones alone -/
def backB (ops : Array Oper) : Bool := (List.range ops.size).all fun i => match ops[i]? with
  | some o => o.after.all fun e => !Region.binds .any e || decide (e.on < i)
  | none => true
/-- each puts its value into a slot of its own: these -/
def dstB (ops : Array Oper) (n : Nat) (ds : List Nat) : Bool := ops.size == ds.length && ds.all (fun d => decide (d < n)) && decide ds.Nodup && (List.range ops.size).all fun i => (ops[i]?).bind (·.dst) == ds[i]?
theorem fold_put : ∀ (ds : List Nat) (Vs : List Value) (T0 T : Array Value), T.size = T0.size → ds.length = Vs.length → ds.Nodup → (∀ d ∈ ds, d < T0.size) → (∀ (i d : Nat) (v : Value), ds[i]? = some d → Vs[i]? = some v → T[d]? = some v) → (∀ s : Nat, s ∉ ds → T[s]? = T0[s]?) →
    T = (ds.zip Vs).foldl (fun T p => T.setIfInBounds p.1 p.2) T0
  | [], _, T0, T, _, _, _, _, _, hb => by
    simp only [List.zip_nil_left, List.foldl_nil]
    exact Array.ext_getElem? fun s => hb s (by simp)
  | d :: ds, [], _, _, _, hl, _, _, _, _ => by simp at hl
  | d :: ds, v :: Vs, T0, T, hs, hl, hn, hd, hv, hb => by
    simp only [List.zip_cons_cons, List.foldl_cons]
    obtain ⟨hn1, hn2⟩ := List.nodup_cons.1 hn
    refine fold_put ds Vs _ T (by simp [hs]) (by simpa using hl) hn2 (fun x hx => by simpa using hd x (List.mem_cons_of_mem _ hx)) (fun i x u h1 h2 => hv (i + 1) x u (by simpa using h1) (by simpa using h2)) fun s hs' => ?_
    by_cases e : d = s
    · subst e
      rw [Array.getElem?_setIfInBounds_self_of_lt (hd d List.mem_cons_self)]
      exact hv 0 d v rfl rfl
    · rw [Array.getElem?_setIfInBounds_ne e]
      exact hb s (by simp [hs', Ne.symm e])
theorem dead_of {ops : Array Oper} (h : backB ops = true) (listed : Array Bool) (hs : listed.size = ops.size) (hr : Region.ready .any ops listed = []) : ∀ i, i < ops.size → listed[i]? = some true := by
  intro i
  induction i using Nat.strongRecOn with
  | ind i ih =>
    intro hi
    have ho : ops[i]? = some ops[i] := Array.getElem?_eq_getElem hi
    have hb := List.all_eq_true.1 h i (List.mem_range.2 hi)
    rw [ho] at hb
    simp only [Array.all_eq_true', Bool.or_eq_true, Bool.not_eq_true', decide_eq_true_eq] at hb
    cases hl : listed.getD i false with
    | true =>
      rw [Array.getD_eq_getD_getElem?, Array.getElem?_eq_getElem (by omega)] at hl
      rw [Array.getElem?_eq_getElem (by omega)]
      simpa using hl
    | false =>
      have : i ∈ Region.ready .any ops listed := by
        simp only [Region.ready, List.mem_filter, List.mem_range, Bool.and_eq_true, ho, Option.map_some, Option.getD_some, Array.all_eq_true']
        refine ⟨hi, ?_, fun e he => ?_⟩
        · rw [Array.getD_eq_getD_getElem?, Array.getElem?_eq_getElem (by omega)] at hl ⊢
          simpa using hl
        · rcases hb e he with h1 | h1
          · simp [h1]
          · have := ih e.on h1 (by omega)
            simp [Array.getD_eq_getD_getElem?, this]
      rw [hr] at this; cases this

section
variable {P : Program} {E : Event → Prop} {b : Frame} {ops : Array Oper} {k : List Item} {cs : List Frame} {K : World → Prop} {T0 : Array Value} {ds : List Nat} {Vs : List Value}
/-- what is asked of one operation -/
def OpGz (P : Program) (E : Event → Prop) (b : Frame) (ops : Array Oper) (k : List Item) (cs : List Frame) (K : World → Prop) (T0 : Array Value) (ds : List Nat) (Vs : List Value) (i : Nat) : Prop :=
  ∀ o v, ops[i]? = some o → Vs[i]? = some v → ∀ T w rest, K w → (∀ s : Nat, ds.contains s = false → T[s]? = T0[s]?) → (∀ j, (o.after.any fun e => Region.binds .any e && e.on == j) = true → ∀ (d : Nat) (v : Value), ds[j]? = some d → Vs[j]? = some v → T[d]? = some v) →
    Gz P (DE E) (fun g w' => g = G (b.at ((⟨T, []⟩ : Act).put o.dst v) (.inRegion ops rest :: k)) cs ∧ K w') (G (b.at ⟨T, []⟩ (.inRegion ops (i :: rest) :: k)) cs) w
theorem drawG (hK : ∀ {w w₁ : World}, K w → AtRel w w₁ → K w₁) (hm : P.follows .mixedOrders = true) (hback : backB ops = true) (hdst : dstB ops T0.size ds = true) (hlen : ds.length = Vs.length) (hops : ∀ i, i < ops.size → OpGz P E b ops k cs K T0 ds Vs i) {id : Nat} {w : World} (hF : K w) :
    Gz P (DE E) (fun g w' => g = G (b.at ⟨(ds.zip Vs).foldl (fun T p => T.setIfInBounds p.1 p.2) T0, []⟩ (.inRegion ops [] :: k)) cs ∧ K w') (G (b.at ⟨T0, []⟩ (.code (.region id ops true) :: k)) cs) w := by
  simp only [dstB, Bool.and_eq_true, beq_iff_eq, List.all_eq_true, decide_eq_true_eq, List.mem_range] at hdst
  obtain ⟨⟨⟨dl, dn⟩, dd⟩, de⟩ := hdst
  have dlt : ∀ i d, ds[i]? = some d → i < ops.size := fun i d h => by have := (List.getElem?_eq_some_iff.1 h).1; omega
  refine Gz.step rfl fun w1 h1 => ⟨_, _, _, stepG_region_draw, fun e he => by simp at he, ?_⟩
  have hF1 : K { w1 with drawn := w1.drawn + 1 } := hK (hK hF h1) ⟨w1.drawn + 1, rfl⟩
  generalize ({ w1 with drawn := w1.drawn + 1 } : World) = w2 at hF1
  generalize w1.tape w1.drawn (.order b.fn id) = t
  clear h1 hF
  have hs : Region.schedule (P.follows .mixedOrders) ops t = Region.linearise .any ops t := by
    unfold Region.schedule
    rw [hm]; rfl
  rw [hs]
  unfold Region.linearise
  have key := lin_go (ops := ops) (md := .any) (fun listed rest => ∀ (T : Array Value) (w : World), T.size = T0.size → (∀ s : Nat, ds.contains s = false → T[s]? = T0[s]?) → (∀ (i d : Nat) (v : Value), ds[i]? = some d → Vs[i]? = some v → listed.getD i false = true → T[d]? = some v) → K w →
      Gz P (DE E) (fun g w' => g = G (b.at ⟨(ds.zip Vs).foldl (fun T p => T.setIfInBounds p.1 p.2) T0, []⟩ (.inRegion ops [] :: k)) cs ∧ K w') (G (b.at ⟨T, []⟩ (.inRegion ops rest :: k)) cs) w) ?_ (fun listed hs hr => dead_of hback listed hs hr) ?_ ops.size t (Array.replicate ops.size false) (by simp) (by simp)
  · exact key T0 w2 rfl (fun _ _ => rfl) (fun i d v _ _ h => by simp [Array.getD_eq_getD_getElem?, Array.getElem?_replicate] at h; split at h <;> simp_all) hF1
  · intro listed hsz hall T w hT hb hv hF
    refine .stop fun w1 h1 => ⟨?_, hK hF h1⟩
    rw [← fold_put ds Vs T0 T hT hlen dd (fun d hd => dn d hd) (fun i d v h2 h3 => hv i d v h2 h3 (by rw [Array.getD_eq_getD_getElem?, hall i (dlt i d h2)]; rfl)) fun s hs => hb s (by simpa using hs)]
  · intro listed i rest hsz hi hn T w hT hb hv hF
    have hil : i < ops.size := by
      simp only [Region.ready, List.mem_filter, List.mem_range] at hi; exact hi.1
    have ho : ops[i]? = some ops[i] := Array.getElem?_eq_getElem hil
    have hdi := de i hil
    rw [ho] at hdi
    have hdx : ds[i]? = some (ds[i]'(by omega)) := List.getElem?_eq_getElem (by omega)
    have hvx : Vs[i]? = some (Vs[i]'(by omega)) := List.getElem?_eq_getElem (by omega)
    generalize ds[i]'(by omega) = d at hdx
    generalize Vs[i]'(by omega) = v at hvx
    have hd : ops[i].dst = some d := by simpa [hdx] using hdi
    have := hops i hil ops[i] v ho hvx T w rest hF hb (fun j hj d' v' hd' hv' => by
      obtain ⟨e, he, hbe⟩ := Array.any_eq_true'.1 hj
      simp only [Bool.and_eq_true, beq_iff_eq] at hbe
      obtain ⟨hbe, rfl⟩ := hbe
      exact hv e.on d' v' hd' hv' (ready_after hi ho he hbe))
    refine this.bind fun g w' hg => ?_
    obtain ⟨rfl, hF'⟩ := hg
    rw [hd]
    have hdT : d < T.size := by rw [hT]; exact dn d (List.mem_of_getElem? hdx)
    refine hn (T.setIfInBounds d v) w' (by simp [hT]) (fun s hs => ?_) (fun j d' v' hd' hv' hl => ?_) hF'
    · have hne : d ≠ s := fun e => by
        subst e
        have := List.mem_of_getElem? hdx
        simp [this] at hs
      rw [Array.getElem?_setIfInBounds_ne hne]; exact hb s hs
    · by_cases hij : i = j
      · subst hij
        rw [hdx] at hd'; cases hd'
        rw [hvx] at hv'; cases hv'
        exact Array.getElem?_setIfInBounds_self_of_lt hdT
      · have hne : d ≠ d' := fun e => by
          subst e
          have h1 := (List.getElem?_eq_some_iff.1 hdx)
          have h2 := (List.getElem?_eq_some_iff.1 hd')
          exact hij ((List.getElem_inj (xs := ds) dd).1 (h1.2.trans h2.2.symm))
        rw [Array.getElem?_setIfInBounds_ne hne]
        refine hv j d' v' hd' hv' ?_
        rw [Array.getD_eq_getD_getElem?, Array.getElem?_setIfInBounds_ne hij] at hl
        rw [Array.getD_eq_getD_getElem?]; exact hl
/-- an operation that leaves the world -/
theorem opgz {i : Nat} {o : Oper} {v : Value} (hK : ∀ {w w₁ : World}, K w → AtRel w w₁ → K w₁) (ho : ops[i]? = some o) (hv : Vs[i]? = some v) (hk : b.kind ≠ .early)
    (h : ∀ T w, K w → (∀ s : Nat, ds.contains s = false → T[s]? = T0[s]?) → (∀ j, (o.after.any fun e => Region.binds .any e && e.on == j) = true → ∀ (d : Nat) (v : Value), ds[j]? = some d → Vs[j]? = some v → T[d]? = some v) →
      Region.wanted o (yielded ops T) = true ∧ (execOp (Act.eval ⟨T, []⟩) o).run P w = .ok (.value v) w ∧ ∀ e ∈ (execOp (Act.eval ⟨T, []⟩) o).events P w #[], E e) : OpGz P E b ops k cs K T0 ds Vs i := by
  intro o' v' ho' hv' T w rest hF hb hd
  rw [ho] at ho'; cases ho'
  rw [hv] at hv'; cases hv'
  refine Gz.step rfl fun w1 h1 => ?_
  have hF1 := hK hF h1
  obtain ⟨h2, h3, h4⟩ := h T w1 hF1 hb hd
  exact ⟨_, _, _, stepG_value ho h2 hk h3, fun e he => h4 e (mem_listed he), .stop fun w2 h5 => ⟨rfl, hK hF1 h5⟩⟩
end
end Go.Proofs.Ytjplnkkcmkpkbaa
