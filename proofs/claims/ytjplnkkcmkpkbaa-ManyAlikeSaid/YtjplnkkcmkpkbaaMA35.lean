/- Several of my texts in one: HeldU. -/
import Derived.OrdersHeld
import Derived.RegionTactic
import Derived.Lib.Hide
set_option linter.unusedSimpArgs false
set_option linter.unusedVariables false
/- A region that draws its order, with loads beside stores into the loaded cells that wait for the loads: the condition S stands till one of the stores 'st' has come up. -/
namespace Go.Proofs.Ytjplnkkcmkpkbaa
open Go.RowKit
section
variable {P : Program} {ops : Array Oper} {Q : Exit → Act → World → Prop} {md : Region.Mode} {S : World → Prop} {st : List Nat}

/-- has one of them come up? -/
def wrote (st : List Nat) (listed : Array Bool) : Bool := st.any fun s => listed.getD s false
def wpAnyU (P : Program) (md : Region.Mode) (ops : Array Oper) (Q : Exit → Act → World → Prop) (st : List Nat) (S : World → Prop) : Nat → Array Bool → Act → World → Prop
  | 0, listed, a, w => Region.ready md ops listed = [] ∧ Q .normal a w
  | fuel + 1, listed, a, w => (Region.ready md ops listed = [] → Q .normal a w) ∧
    ∀ i ∈ Region.ready md ops listed, wpOp P ops Q i (fun a' w' => (wrote st (listed.setIfInBounds i true) = false → S w') ∧ wpAnyU P md ops Q st S fuel (listed.setIfInBounds i true) a' w') a w
theorem wpAny_of_U : ∀ (fuel : Nat) (listed : Array Bool) (a : Act) (w : World), wpAnyU P md ops Q st S fuel listed a w → wpAny P md ops Q fuel listed a w
  | 0, _, _, _, h => h
  | fuel + 1, _, _, _, h => ⟨h.1, fun i hi => wpOp_mono (fun a' w' h' => wpAny_of_U fuel _ a' w' h'.2) (h.2 i hi)⟩
theorem wrote_set {listed : Array Bool} {j : Nat} (hj : j ∉ st) : wrote st (listed.setIfInBounds j true) = wrote st listed := by
  unfold wrote
  rw [Bool.eq_iff_iff, List.any_eq_true, List.any_eq_true]
  constructor
  · rintro ⟨s, hs, h⟩; exact ⟨s, hs, by rw [getD_set_ne false (show j ≠ s from fun e => hj (e ▸ hs))] at h; exact h⟩
  · rintro ⟨s, hs, h⟩; exact ⟨s, hs, by rw [getD_set_ne false (show j ≠ s from fun e => hj (e ▸ hs))]; exact h⟩
/-- an operation waits for another one, maybe by way of others -/
inductive Needs (md : Region.Mode) (ops : Array Oper) : Nat → Nat → Prop
  | step {s : Nat} {o : Oper} {e : Edge} : ops[s]? = some o → e ∈ o.after → Region.binds md e = true → Needs md ops s e.on
  | trans {s i : Nat} {o : Oper} {e : Edge} : ops[s]? = some o → e ∈ o.after → Region.binds md e = true → Needs md ops e.on i → Needs md ops s i
/-- with each operation that has come up those have, for which it waits -/
def Clo (md : Region.Mode) (ops : Array Oper) (listed : Array Bool) : Prop := ∀ x o, listed.getD x false = true → ops[x]? = some o → ∀ e ∈ o.after, Region.binds md e = true → listed.getD e.on false = true
theorem Needs.listed {s i : Nat} (h : Needs md ops s i) {listed : Array Bool} (hc : Clo md ops listed) (hs : listed.getD s false = true) : listed.getD i false = true := by
  induction h with
  | step ho he hb => exact hc _ _ hs ho _ he hb
  | trans ho he hb _ ih => exact ih (hc _ _ hs ho _ he hb)
theorem Needs.ready {s i : Nat} (h : Needs md ops s i) {listed : Array Bool} (hc : Clo md ops listed) (hs : s ∈ Region.ready md ops listed) : listed.getD i false = true := by
  obtain ⟨_, o, ho, hall⟩ := mem_ready.1 hs
  cases h with
  | step ho' he hb => rw [ho] at ho'; cases ho'; exact hall _ he hb
  | trans ho' he hb h2 => rw [ho] at ho'; cases ho'; exact h2.listed hc (hall _ he hb)
theorem getD_at (l : Array Bool) (x : Nat) (d : Bool) (h : x < l.size) : l.getD x d = l[x] := by simp [h]
theorem set_true {l : Array Bool} {j x : Nat} (h : l.getD x false = true) : (l.setIfInBounds j true).getD x false = true := by
  by_cases hjx : j = x
  · subst hjx
    by_cases hlt : j < l.size
    · simp [hlt]
    · simp [hlt] at h
  · rw [getD_set_ne false hjx]; exact h
theorem Clo.set {listed : Array Bool} (hc : Clo md ops listed) {j : Nat} (hj : j ∈ Region.ready md ops listed) : Clo md ops (listed.setIfInBounds j true) := by
  intro x o hx ho e he hb
  obtain ⟨_, oj, hoj, hall⟩ := mem_ready.1 hj
  refine set_true ?_
  by_cases hjx : j = x
  · subst hjx; rw [ho] at hoj; cases hoj; exact hall e he hb
  · rw [getD_set_ne false hjx] at hx; exact hc x o hx ho e he hb
def needsB (md : Region.Mode) (ops : Array Oper) (i : Nat) : Nat → Nat → Bool
  | 0, _ => false
  | fuel + 1, s => match ops[s]? with
    | some o => o.after.any fun e => Region.binds md e && (e.on == i || needsB md ops i fuel e.on)
    | none => false
theorem needsB_spec {i : Nat} : ∀ (fuel s : Nat), needsB md ops i fuel s = true → Needs md ops s i
  | 0, _, h => by cases h
  | fuel + 1, s, h => by
    unfold needsB at h
    cases ho : ops[s]? with
    | none => rw [ho] at h; cases h
    | some o =>
      rw [ho] at h
      obtain ⟨e, he, h2⟩ := Array.any_eq_true'.1 h
      simp only [Bool.and_eq_true, Bool.or_eq_true, beq_iff_eq] at h2
      rcases h2.2 with h3 | h3
      · exact h3 ▸ .step ho he h2.1
      · exact .trans ho he h2.1 (needsB_spec fuel e.on h3)
def cloB (md : Region.Mode) (ops : Array Oper) (listed : Array Bool) : Bool :=
  (List.range ops.size).all fun x => !listed.getD x false || (match ops[x]? with | some o => o.after.all fun e => !Region.binds md e || listed.getD e.on false | none => true)
theorem cloB_spec {listed : Array Bool} (h : cloB md ops listed = true) : Clo md ops listed := by
  intro x o hx ho e he hb
  have hlt : x < ops.size := (Array.getElem?_eq_some_iff.1 ho).1
  have := List.all_eq_true.1 h x (List.mem_range.2 hlt)
  rw [hx, ho] at this
  simp only [Bool.not_true, Bool.false_or] at this
  have h2 := Array.all_eq_true_iff_forall_mem.1 this e he
  simpa [hb] using h2
theorem wpAnyU_first {i : Nat} {oi : Oper} {v : Value} (hi : ops[i]? = some oi) (hsel : ∀ (j : Nat) (o : Oper) cs b, ops[j]? = some o → o.op ≠ .select cs b)
    (hQ : ∀ c a w, Q (.panic c) (a.put oi.dst v) w → Q (.panic c) a w) (hit : i ∉ st)
    (hst : ∀ s ∈ st, Needs md ops s i) :
    ∀ (fuel : Nat) (listed : Array Bool) (a : Act) (w : World),
      (∀ j oj, ops[j]? = some oj → j ≠ i → listed.getD j true = false → (∀ e ∈ oj.after, Region.binds md e = true → e.on ≠ i) → oi.apart ops oj = true) →
      Clo md ops listed → i ∈ Region.ready md ops listed → YieldsIf P ops S oi v a → wrote st listed = false → S w →
      wpAnyU P md ops Q st S fuel (listed.setIfInBounds i true) (a.put oi.dst v) w → wpAnyU P md ops Q st S (fuel + 1) listed a w := by
  intro fuel
  induction fuel with
  | zero =>
    intro listed a w _ _ hr hy hw hS H
    refine ⟨fun h => (by rw [h] at hr; cases hr), fun j hj => ?_⟩
    by_cases hji : j = i
    · subst hji; exact hy.wpOp hi hS ⟨fun _ => hS, H⟩
    · have := ready_mono hj hji
      rw [H.1] at this
      cases this
  | succ fuel ih =>
    intro listed a w hfree hcl hr hy hw hS H
    refine ⟨fun h => (by rw [h] at hr; cases hr), fun j hj => ?_⟩
    by_cases hji : j = i
    · subst hji; exact hy.wpOp hi hS ⟨fun _ => hS, H⟩
    · have h1 := H.2 j (ready_mono hj hji)
      obtain ⟨hjun, oj, hoj, hall⟩ := mem_ready.1 hj
      have hnot : ∀ e ∈ oj.after, Region.binds md e = true → e.on ≠ i := fun e he hb heq => by
        have h2 := hall e he hb
        have h0 := (mem_ready.1 hr).1
        rw [heq] at h2
        rcases Nat.lt_or_ge i listed.size with h' | h'
        · simp [h'] at h0 h2; rw [h0] at h2; cases h2
        · simp [Array.getElem?_eq_none h'] at h2
      have hjst : j ∉ st := fun hm => by
        have h2 := (hst j hm).ready hcl hj
        have h0 := (mem_ready.1 hr).1
        rcases Nat.lt_or_ge i listed.size with h' | h'
        · simp [h'] at h0 h2; rw [h0] at h2; cases h2
        · simp [Array.getElem?_eq_none h'] at h2
      have hwj : wrote st (listed.setIfInBounds j true) = false := by rw [wrote_set hjst]; exact hw
      have hwij : wrote st ((listed.setIfInBounds i true).setIfInBounds j true) = false := by rw [wrote_set hjst, wrote_set hit]; exact hw
      have h2 := wpOp_putIf hoj (hfree j oj hoj hji hjun hnot) (fun cs b => hsel i oi cs b hi) (fun cs b => hsel j oj cs b hoj) hQ hy h1
      have hfree' : ∀ k ok, ops[k]? = some ok → k ≠ i → (listed.setIfInBounds j true).getD k true = false →
          (∀ e ∈ ok.after, Region.binds md e = true → e.on ≠ i) → oi.apart ops ok = true := fun k ok hk hki hun hno => by
        refine hfree k ok hk hki ?_ hno
        by_cases hjk : j = k
        · subst hjk; exact hjun
        · rw [getD_set_ne true hjk] at hun; exact hun
      refine wpOp_mono (fun a' w' h3 => ⟨fun _ => h3.2.1 hwij, ih (listed.setIfInBounds j true) a' w' hfree' (hcl.set hj) (ready_mono hr (Ne.symm hji)) h3.1 hwj (h3.2.1 hwij) ?_⟩) h2
      rw [Array.setIfInBounds_comm _ _ hji]
      exact h3.2.2

/-- the same for what yields in whatever world -/
theorem wpAnyU_firstY {i : Nat} {oi : Oper} {v : Value} (hi : ops[i]? = some oi) (hsel : ∀ (j : Nat) (o : Oper) cs b, ops[j]? = some o → o.op ≠ .select cs b)
    (hQ : ∀ c a w, Q (.panic c) (a.put oi.dst v) w → Q (.panic c) a w) (hit : i ∉ st) :
    ∀ (fuel : Nat) (listed : Array Bool) (a : Act) (w : World),
      (∀ j oj, ops[j]? = some oj → j ≠ i → listed.getD j true = false → (∀ e ∈ oj.after, Region.binds md e = true → e.on ≠ i) → oi.apart ops oj = true) →
      i ∈ Region.ready md ops listed → YieldsIf P ops (fun _ => True) oi v a → (wrote st listed = false → S w) →
      wpAnyU P md ops Q st S fuel (listed.setIfInBounds i true) (a.put oi.dst v) w → wpAnyU P md ops Q st S (fuel + 1) listed a w := by
  intro fuel
  induction fuel with
  | zero =>
    intro listed a w _ hr hy hS H
    refine ⟨fun h => (by rw [h] at hr; cases hr), fun j hj => ?_⟩
    by_cases hji : j = i
    · subst hji; exact hy.wpOp hi trivial ⟨fun h => hS (by rwa [wrote_set hit] at h), H⟩
    · have := ready_mono hj hji
      rw [H.1] at this
      cases this
  | succ fuel ih =>
    intro listed a w hfree hr hy hS H
    refine ⟨fun h => (by rw [h] at hr; cases hr), fun j hj => ?_⟩
    by_cases hji : j = i
    · subst hji; exact hy.wpOp hi trivial ⟨fun h => hS (by rwa [wrote_set hit] at h), H⟩
    · have h1 := H.2 j (ready_mono hj hji)
      obtain ⟨hjun, oj, hoj, hall⟩ := mem_ready.1 hj
      have hnot : ∀ e ∈ oj.after, Region.binds md e = true → e.on ≠ i := fun e he hb heq => by
        have h2 := hall e he hb
        have h0 := (mem_ready.1 hr).1
        rw [heq] at h2
        rcases Nat.lt_or_ge i listed.size with h' | h'
        · simp [h'] at h0 h2; rw [h0] at h2; cases h2
        · simp [Array.getElem?_eq_none h'] at h2
      have h2 := wpOp_putIf hoj (hfree j oj hoj hji hjun hnot) (fun cs b => hsel i oi cs b hi) (fun cs b => hsel j oj cs b hoj) hQ hy h1
      have hfree' : ∀ k ok, ops[k]? = some ok → k ≠ i → (listed.setIfInBounds j true).getD k true = false →
          (∀ e ∈ ok.after, Region.binds md e = true → e.on ≠ i) → oi.apart ops ok = true := fun k ok hk hki hun hno => by
        refine hfree k ok hk hki ?_ hno
        by_cases hjk : j = k
        · subst hjk; exact hjun
        · rw [getD_set_ne true hjk] at hun; exact hun
      have hwij : wrote st ((listed.setIfInBounds i true).setIfInBounds j true) = wrote st (listed.setIfInBounds j true) := by rw [Array.setIfInBounds_comm _ _ (Ne.symm hji), wrote_set hit]
      refine wpOp_mono (fun a' w' h3 => ⟨fun h => h3.2.1 (by rw [hwij]; exact h), ih (listed.setIfInBounds j true) a' w' hfree' (ready_mono hr (Ne.symm hji)) h3.1 (fun h => h3.2.1 (by rw [hwij]; exact h)) ?_⟩) h2
      rw [Array.setIfInBounds_comm _ _ hji]
      exact h3.2.2
theorem wpAnyU_takeY {i : Nat} {oi : Oper} {v : Value} {fuel : Nat} {listed : Array Bool} {a : Act} {w : World} (hi : ops[i]? = some oi)
    (hs : Region.noSelect ops = true) (hf : Region.free md ops listed i = true) (hr : (Region.ready md ops listed).contains i = true) (hit : (!st.contains i) = true)
    (hQ : ∀ c a w, Q (.panic c) (a.put oi.dst v) w → Q (.panic c) a w) (hy : YieldsIf P ops (fun _ => True) oi v a) (hS : S w)
    (h : wpAnyU P md ops Q st S fuel (listed.setIfInBounds i true) (a.put oi.dst v) w) : wpAnyU P md ops Q st S (fuel + 1) listed a w :=
  wpAnyU_firstY hi (Region.noSelect_spec hs) hQ (by simpa using hit) fuel listed a w (Region.free_spec hi hf) (by simpa using hr) hy (fun _ => hS) h

/-- behind a store S is of no use any more -/
theorem wpAnyU_takeW {i : Nat} {oi : Oper} {v : Value} {fuel : Nat} {listed : Array Bool} {a : Act} {w : World} (hi : ops[i]? = some oi)
    (hs : Region.noSelect ops = true) (hf : Region.free md ops listed i = true) (hr : (Region.ready md ops listed).contains i = true) (hit : (!st.contains i && wrote st listed) = true)
    (hQ : ∀ c a w, Q (.panic c) (a.put oi.dst v) w → Q (.panic c) a w) (hy : YieldsIf P ops (fun _ => True) oi v a)
    (h : wpAnyU P md ops Q st S fuel (listed.setIfInBounds i true) (a.put oi.dst v) w) : wpAnyU P md ops Q st S (fuel + 1) listed a w := by
  rw [Bool.and_eq_true] at hit
  exact wpAnyU_firstY hi (Region.noSelect_spec hs) hQ (by simpa using hit.1) fuel listed a w (Region.free_spec hi hf) (by simpa using hr) hy (fun e => by rw [hit.2] at e; cases e) h

/-- do the stores wait for it? -/
def waits (md : Region.Mode) (ops : Array Oper) (st : List Nat) (i : Nat) : Bool := st.all (needsB md ops i 6)
theorem wpAnyU_take {i : Nat} {oi : Oper} {v : Value} {fuel : Nat} {listed : Array Bool} {a : Act} {w : World} (hi : ops[i]? = some oi)
    (hs : Region.noSelect ops = true) (hf : Region.free md ops listed i = true) (hr : (Region.ready md ops listed).contains i = true) (hst : waits md ops st i = true) (hit : (!st.contains i && cloB md ops listed) = true) (hwr : wrote st listed = false)
    (hQ : ∀ c a w, Q (.panic c) (a.put oi.dst v) w → Q (.panic c) a w) (hy : YieldsIf P ops S oi v a) (hS : S w)
    (h : wpAnyU P md ops Q st S fuel (listed.setIfInBounds i true) (a.put oi.dst v) w) : wpAnyU P md ops Q st S (fuel + 1) listed a w := by
  rw [Bool.and_eq_true] at hit
  exact wpAnyU_first hi (Region.noSelect_spec hs) hQ (by simpa using hit.1) (fun s hs => needsB_spec 6 s (List.all_eq_true.1 hst s hs)) fuel listed a w (Region.free_spec hi hf) (cloB_spec hit.2) (by simpa using hr) hy hwr hS h
def AllReadyU (P : Program) (md : Region.Mode) (ops : Array Oper) (Q : Exit → Act → World → Prop) (st : List Nat) (S : World → Prop) (fuel : Nat) (listed : Array Bool) (a : Act) (w : World) (rs : List Nat) : Prop :=
  ∀ i ∈ rs, wpOp P ops Q i (fun a' w' => (wrote st (listed.setIfInBounds i true) = false → S w') ∧ wpAnyU P md ops Q st S fuel (listed.setIfInBounds i true) a' w') a w
theorem AllReadyU.nil {fuel : Nat} {listed : Array Bool} {a : Act} {w : World} : AllReadyU P md ops Q st S fuel listed a w [] := fun _ h => by cases h
theorem AllReadyU.cons {fuel : Nat} {listed : Array Bool} {a : Act} {w : World} {i : Nat} {o : Oper} {rs : List Nat} (ho : ops[i]? = some o)
    (h : ∀ K' : Act → World → Prop, Hid (∀ a w, (wrote st (listed.setIfInBounds i true) = false → S w) → wpAnyU P md ops Q st S fuel (listed.setIfInBounds i true) a w → K' a w) → if Region.wanted o (yielded ops a.tmps) = true then Oper.wp P o a w K' Q else K' (a.put o.dst undef) w)
    (hs : AllReadyU P md ops Q st S fuel listed a w rs) : AllReadyU P md ops Q st S fuel listed a w (i :: rs) := fun j hj => by
  rcases List.mem_cons.1 hj with rfl | hj
  · exact wpOp_step ho (fun K' hK => h K' (Lib.hid fun a w hS hW => hK a w ⟨hS, hW⟩))
  · exact hs j hj
theorem wpAnyU_ready {rs : List Nat} {fuel : Nat} {listed : Array Bool} {a : Act} {w : World} (hr : Region.ready md ops listed = rs) (hne : rs ≠ [])
    (h : AllReadyU P md ops Q st S fuel listed a w rs) : wpAnyU P md ops Q st S (fuel + 1) listed a w := ⟨fun h0 => absurd (hr ▸ h0) hne, hr ▸ h⟩
theorem wpAnyU_done {listed : Array Bool} {a : Act} {w : World} (hr : Region.ready md ops listed = []) (h : Q .normal a w) :
    ∀ fuel, wpAnyU P md ops Q st S fuel listed a w
  | 0 => ⟨hr, h⟩
  | _ + 1 => ⟨fun _ => h, by rw [hr]; simp⟩
theorem wp_region_U {id : Nat} {a : Act} {w : World} (st : List Nat) (S : World → Prop) (hm : P.follows .mixedOrders = true)
    (h : wpAnyU P .any ops Q st S ops.size (Array.replicate ops.size false) a w.drew) : (Code.region id ops true).wp P Q a w :=
  wp_region_any hm (wpAny_of_U _ _ _ _ h)
end
end Go.Proofs.Ytjplnkkcmkpkbaa
